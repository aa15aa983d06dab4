/- What there is and what was used is what there was: the plain part of the law. No program. -/
import Derived.Test.YtlphegjhkchglaaUseL
import Derived.Test.YtlphegjhkchglaaTools
import Derived.Test.YtlphegjhkchglaaParts2
namespace Go.Proofs.Ytlphegjhkchglaa
open Go Go.RowKit
set_option linter.unusedVariables false
set_option linter.unusedSimpArgs false
theorem rHas_is {L : List Int} {x : Int} {b : Bool} (h : hasB L x = b) (A : Option Addr) (cap : Nat) (w : World) (hn : L.length ≤ 100000000) (hr : Rd encI 1 w.heap.size w A L) :
    Calls Try.prog 46 #[.slice A L.length cap, .int .i64 x] w fun e w' => e = .returned (.bool b) ∧ w = w' := h ▸ rHas_any L L.length rfl x A cap w hn hr
theorem bl_irr : ∀ x : List UInt8, Op.bytesLess x x = false
  | [] => rfl
  | a :: x => by simp [Op.bytesLess, bl_irr x]
theorem bl_trans : ∀ x y z : List UInt8, Op.bytesLess x y = true → Op.bytesLess y z = true → Op.bytesLess x z = true
  | _, [], _, h, _ => by cases ‹List UInt8› <;> simp [Op.bytesLess] at h
  | _, _ :: _, [], _, h => by simp [Op.bytesLess] at h
  | [], _ :: _, _ :: _, _, _ => rfl
  | a :: x, b :: y, c :: z, h1, h2 => by
    simp only [Op.bytesLess, Bool.or_eq_true, Bool.and_eq_true, decide_eq_true_eq, beq_iff_eq] at *
    rcases h1 with h1 | ⟨rfl, h1⟩
    · rcases h2 with h2 | ⟨rfl, h2⟩
      · exact .inl (UInt8.lt_trans h1 h2)
      · exact .inl h1
    · rcases h2 with h2 | ⟨rfl, h2⟩
      · exact .inl h2
      · exact .inr ⟨rfl, bl_trans x y z h1 h2⟩
theorem parts_lt {L : List Part} (h : partsB L = true) {i : Nat} {d : Part} (hd : L[i]? = some d) : ∀ (m : Nat) (c : Part), L[i + m + 1]? = some c → partLt d c = true
  | 0, c, hc => riseB_lt h hd hc
  | m + 1, c, hc => by
    have hlt := (List.getElem?_eq_some_iff.1 hc).1
    have hg := List.getElem?_eq_getElem (show i + m + 1 < L.length by omega)
    have h1 := parts_lt h hd m _ hg
    have h2 := riseB_lt h hg hc
    exact bl_trans _ _ _ h1 h2
theorem parts_ix {L : List Part} (h : partsB L = true) {i j : Nat} {d c : Part} (hd : L[i]? = some d) (hc : L[j]? = some c) (he : d.name.toList = c.name.toList) : i = j := by
  rcases Nat.lt_trichotomy i j with hij | hij | hij
  · obtain ⟨m, rfl⟩ : ∃ m, j = i + m + 1 := ⟨j - i - 1, by omega⟩
    have := parts_lt h hd m c hc
    unfold partLt at this
    rw [he, bl_irr] at this; cases this
  · exact hij
  · obtain ⟨m, rfl⟩ : ∃ m, i = j + m + 1 := ⟨i - j - 1, by omega⟩
    have := parts_lt h hc m d hd
    unfold partLt at this
    rw [he, bl_irr] at this; cases this
/- sums -/
def sumL (f : Nat → Int) : List Nat → Int
  | [] => 0
  | i :: r => f i + sumL f r
theorem sumL_append (f : Nat → Int) : ∀ A B : List Nat, sumL f (A ++ B) = sumL f A + sumL f B
  | [], B => by simp [sumL]
  | i :: r, B => by simp only [List.cons_append, sumL, sumL_append f r B]; omega
theorem sumL_congr {f g : Nat → Int} : ∀ {O : List Nat}, (∀ i ∈ O, f i = g i) → sumL f O = sumL g O
  | [], _ => rfl
  | i :: r, h => by
    simp only [sumL]
    rw [h i (by simp), sumL_congr (fun j hj => h j (by simp [hj]))]
theorem sumL_perm {f : Nat → Int} {A B : List Nat} (h : A.Perm B) : sumL f A = sumL f B := by
  induction h with
  | nil => rfl
  | cons x _ ih => simp only [sumL, ih]
  | swap x y l => simp only [sumL]; omega
  | trans _ _ h1 h2 => rw [h1, h2]
theorem sumL_filter {f : Nat → Int} {q : Nat → Bool} : ∀ {O : List Nat}, (∀ i ∈ O, q i = false → f i = 0) → sumL f O = sumL f (O.filter q)
  | [], _ => rfl
  | i :: r, h => by
    have ih := sumL_filter (q := q) (fun j hj => h j (by simp [hj]) : ∀ j ∈ r, q j = false → f j = 0)
    cases hq : q i with
    | true => rw [List.filter_cons_of_pos hq]; simp only [sumL, ih]
    | false => rw [List.filter_cons_of_neg (by rw [hq]; decide)]; simp only [sumL, ih, h i (by simp) hq]; omega
/- a sorted list, parted -/
theorem sorted_split {α : Type} (key : α → Int) (D : Int) : ∀ L : List α, SortedK key L → L = L.filter (fun c => decide (key c ≤ D)) ++ L.filter (fun c => decide (D < key c))
  | [], _ => rfl
  | a :: r, h => by
    have h2 := List.pairwise_cons.1 h
    have ih := sorted_split key D r h2.2
    by_cases ha : key a ≤ D
    · rw [List.filter_cons_of_pos (by simpa using ha), List.filter_cons_of_neg (by simp; omega), List.cons_append, ← ih]
    · have e1 : r.filter (fun c => decide (key c ≤ D)) = [] := List.filter_eq_nil_iff.2 fun b hb => by
        have := h2.1 b hb
        simp; omega
      have e2 : r.filter (fun c => decide (D < key c)) = r := List.filter_eq_self.2 fun b hb => by
        have := h2.1 b hb
        simp; omega
      rw [List.filter_cons_of_neg (by simpa using ha), e1, List.nil_append, List.filter_cons_of_pos (by simp; omega), e2]
theorem run_more {L : List Part} {U : List Use} : ∀ (B : List Nat) (s : List Int × List Int), ∃ E : List Int, (B.foldl (runS L U) s).2 = s.2 ++ E ∧ ∀ x ∈ E, ∃ i ∈ B, x = (i : Int)
  | [], s => ⟨[], by simp, fun x hx => by cases hx⟩
  | i :: r, s => by
    obtain ⟨E, h1, h2⟩ := run_more r (runS L U s i)
    have h3 : (runS L U s i).2 = s.2 ∨ (runS L U s i).2 = s.2 ++ [(i : Int)] := by
      unfold runS
      split
      · exact .inl rfl
      · split
        · exact .inl rfl
        · exact .inr rfl
    rw [List.foldl_cons, h1]
    rcases h3 with h3 | h3
    · exact ⟨E, by rw [h3], fun x hx => by obtain ⟨j, hj, e⟩ := h2 x hx; exact ⟨j, by simp [hj], e⟩⟩
    · refine ⟨(i : Int) :: E, by rw [h3]; simp, fun x hx => ?_⟩
      rcases List.mem_cons.1 hx with h4 | h4
      · exact ⟨i, by simp, h4⟩
      · obtain ⟨j, hj, e⟩ := h2 x h4; exact ⟨j, by simp [hj], e⟩
theorem due_sub (U : List Use) {D : Int} (hD : D ≤ 999) : dueU U 999 = dueU U D ++ (dueU U 999).filter (fun i => decide (D < dayU U i)) := by
  have h := sorted_split (dayU U) D (dueU U 999) (by rw [dueU_is]; exact ordL_sorted _)
  have e : (dueU U 999).filter (fun c => decide (dayU U c ≤ D)) = dueU U D := by
    unfold dueU
    rw [List.filter_filter]
    apply List.filter_congr
    intro i _
    by_cases hd : dayU U i ≤ D
    · have : dayU U i ≤ 999 := by omega
      simp [hd, this]
    · simp [hd]
  rw [e] at h
  exact h
theorem miss_same {L : List Part} {U : List Use} {D : Int} (hD : D ≤ 999) {i : Nat} (hi : dayU U i ≤ D) : (i : Int) ∈ (runL L U 999).2 ↔ (i : Int) ∈ (runL L U D).2 := by
  have e : runL L U 999 = ((dueU U 999).filter (fun i => decide (D < dayU U i))).foldl (runS L U) (runL L U D) := by
    unfold runL
    rw [due_sub U hD]
    simp only [runO, List.foldl_append]
    rw [← due_sub U hD]
  obtain ⟨E, h1, h2⟩ := run_more (L := L) (U := U) ((dueU U 999).filter (fun i => decide (D < dayU U i))) (runL L U D)
  rw [e, h1, List.mem_append]
  constructor
  · rintro (h | h)
    · exact h
    · obtain ⟨j, hj, e2⟩ := h2 _ h
      have hj2 := (List.mem_filter.1 hj).2
      have : i = j := by omega
      subst this
      simp at hj2
      omega
  · exact .inl
def cnt (L : List Part) (U : List Use) (k : Nat) (M : List Int) (i : Nat) : Int := match U[i]? with
  | some u => if partK L u = k ∧ ¬ (i : Int) ∈ M then u.count else 0
  | none => 0
theorem conserve {L : List Part} {U : List Use} (h : usesB L U = true) {k : Nat} {p : Part} (hp : L[k]? = some p) : ∀ (n : Nat) (O : List Nat), O.length = n → O.Nodup → (∀ i ∈ O, i < U.length) → (runO L U O).1.getD k 0 + sumL (cnt L U k (runO L U O).2) O = p.have_
  | 0, O, hn, _, _ => by
    obtain rfl := List.eq_nil_of_length_eq_zero hn
    simp [runO, run0, sumL, List.getD, hp]
  | n + 1, O, hn, hnd, hO => by
    obtain ⟨Q, i, rfl⟩ : ∃ Q i, O = Q ++ [i] := by
      rcases List.eq_nil_or_concat O with rfl | ⟨Q, i, rfl⟩
      · simp at hn
      · exact ⟨Q, i, by simp⟩
    have hnd2 := List.nodup_append.1 hnd
    have hiQ : i ∉ Q := fun hq => hnd2.2.2 i hq i (by simp) rfl
    have hQ : ∀ j ∈ Q, j < U.length := fun j hj => hO j (by simp [hj])
    have ih := conserve h hp n Q (by simpa using hn) hnd2.1 hQ
    obtain ⟨f1, f2, f3, f4⟩ := run_facts h n Q (by simpa using hn) hQ
    have hi := hO i (by simp)
    have hu := List.getElem?_eq_getElem hi
    obtain ⟨⟨kk, hk, hkl⟩, _, hc1, hc2⟩ := uses_at h hu
    have hpk : partK L U[i] = kk := by simp [partK, hk]
    have hh := List.getElem?_eq_getElem (show kk < (runO L U Q).1.length by omega)
    have hiM : ¬ (i : Int) ∈ (runO L U Q).2 := fun hm => by
      obtain ⟨j, hj, e⟩ := f4 _ hm
      have : i = j := by omega
      exact hiQ (this ▸ hj)
    rw [runO_snoc, sumL_append]
    by_cases hle : (U[i]).count ≤ (runO L U Q).1[kk]
    · rw [runS_yes rfl hu hk hh hle]
      simp only [sumL, cnt, hu, hpk, hiM, not_false_eq_true, and_true]
      by_cases hkk : kk = k
      · subst hkk
        rw [if_pos rfl]
        have e1 : ((runO L U Q).1.set kk ((runO L U Q).1[kk] - U[i].count)).getD kk 0 = (runO L U Q).1[kk] - U[i].count := by
          simp only [List.getD]
          rw [List.getElem?_set_self (by omega)]
          rfl
        have e2 : (runO L U Q).1.getD kk 0 = (runO L U Q).1[kk] := by simp [List.getD, hh]
        rw [e1]; rw [e2] at ih
        show _ - _ + (sumL (cnt L U kk _) Q + _) = _
        omega
      · rw [if_neg hkk]
        have e1 : ((runO L U Q).1.set kk ((runO L U Q).1[kk] - U[i].count)).getD k 0 = (runO L U Q).1.getD k 0 := by
          simp only [List.getD]
          rw [List.getElem?_set_ne hkk]
        rw [e1]
        show _ + (sumL (cnt L U k _) Q + _) = _
        omega
    · rw [runS_no rfl hu hk hh hle]
      have e1 : sumL (cnt L U k ((runO L U Q).2 ++ [(i : Int)])) Q = sumL (cnt L U k (runO L U Q).2) Q := sumL_congr fun j hj => by
        have hji : j ≠ i := fun e => hiQ (e ▸ hj)
        unfold cnt
        have : ((j : Int) ∈ (runO L U Q).2 ++ [(i : Int)]) ↔ (j : Int) ∈ (runO L U Q).2 := by
          rw [List.mem_append]
          constructor
          · rintro (h1 | h1)
            · exact h1
            · have : (j : Int) = i := by simpa using h1
              omega
          · exact .inl
        simp only [this]
      have e2 : cnt L U k ((runO L U Q).2 ++ [(i : Int)]) i = 0 := by
        unfold cnt
        rw [hu]
        simp
      rw [e1]
      simp only [sumL, e2]
      omega
def useF (U : List Use) (nm : ByteArray) (D : Int) (M : List Int) (i : Nat) : Int := match U[i]? with
  | some u => if (u.name.toList == nm.toList) && (decide (u.day ≤ D) && !(hasB M (i : Int))) then u.count else 0
  | none => 0
def usedK (U : List Use) (nm : ByteArray) (D : Int) (M : List Int) (n : Nat) : Int := sumL (useF U nm D M) (List.range n)
theorem used_zero (U : List Use) (nm : ByteArray) (D : Int) (M : List Int) : usedK U nm D M 0 = 0 := rfl
theorem used_step {U : List Use} {nm : ByteArray} {D : Int} {M : List Int} {i : Nat} {u : Use} (h : U[i]? = some u) : usedK U nm D M (i + 1) = usedK U nm D M i + if (u.name.toList == nm.toList) && (decide (u.day ≤ D) && !(hasB M (i : Int))) then u.count else 0 := by
  unfold usedK
  rw [List.range_succ, sumL_append]
  simp [sumL, useF, h]
theorem used_bd {L : List Part} {U : List Use} (h : usesB L U = true) (nm : ByteArray) (D : Int) (M : List Int) : ∀ n : Nat, n ≤ U.length → 0 ≤ usedK U nm D M n ∧ usedK U nm D M n ≤ 100 * n
  | 0, _ => by simp [used_zero]
  | n + 1, hn => by
    have ih := used_bd h nm D M n (by omega)
    have hu := List.getElem?_eq_getElem (show n < U.length by omega)
    obtain ⟨_, _, hc1, hc2⟩ := uses_at h hu
    rw [used_step hu]
    split <;> omega
theorem stk_law {L : List Part} {U : List Use} {D : Int} (hb : stkB L U D = true) {k : Nat} {p : Part} (hp : L[k]? = some p) : ∃ x, (stkV L U D)[k]? = some x ∧ (0 ≤ x ∧ x ≤ 500) ∧ x + usedK U p.name D (missV L U) U.length = p.have_ := by
  have hb2 := hb
  simp only [stkB, Bool.and_eq_true, inB_iff] at hb2
  obtain ⟨h, hD0, hD⟩ := hb2
  have hkl := (List.getElem?_eq_some_iff.1 hp).1
  have hlt : ∀ i ∈ dueU U D, i < U.length := fun i hi => due_lt hi
  obtain ⟨f1, f2, _, _⟩ := run_facts h _ (dueU U D) rfl hlt
  have hV : stkV L U D = (runL L U D).1 := by rw [stkV, if_pos hb]
  have hM : missV L U = srtI (runL L U 999).2 := by rw [missV, if_pos h]; rfl
  have hx := List.getElem?_eq_getElem (show k < (runO L U (dueU U D)).1.length by omega)
  refine ⟨_, by rw [hV]; exact hx, f2 _ (List.getElem_mem _), ?_⟩
  have hc := conserve h hp _ (dueU U D) rfl ((ordU_nodup U).filter _) hlt
  have e0 : (runO L U (dueU U D)).1.getD k 0 = (runO L U (dueU U D)).1[k] := by simp [List.getD, hx]
  rw [e0] at hc
  rw [← hc]
  congr 1
  unfold usedK
  rw [sumL_filter (q := fun i => decide (dayU U i ≤ D)) (fun i hi hq => by
    have hil : i < U.length := by simpa using hi
    have hu := List.getElem?_eq_getElem hil
    rw [dayU_at hu] at hq
    simp only [useF, hu]
    rw [hq]
    simp)]
  rw [← sumL_perm (by rw [dueU_is]; exact ordL_perm _ : (dueU U D).Perm _)]
  refine sumL_congr fun i hi => ?_
  have hil := hlt i hi
  have hid : dayU U i ≤ D := by simpa using (List.mem_filter.1 hi).2
  have hu := List.getElem?_eq_getElem hil
  have hud := hid
  rw [dayU_at hu] at hud
  obtain ⟨⟨kk, hk, hkkl⟩, _, _, _⟩ := uses_at h hu
  have hpk : partK L U[i] = kk := by simp [partK, hk]
  have hcon : hasB (missV L U) (i : Int) = decide ((i : Int) ∈ (runL L U D).2) := by
    rw [hM]
    have : ((i : Int) ∈ srtI (runL L U 999).2) ↔ (i : Int) ∈ (runL L U D).2 := ((srtI_perm _).mem_iff).trans (miss_same hD hid)
    by_cases hm : (i : Int) ∈ (runL L U D).2
    · rw [hasB_yes (this.2 hm)]; simp [hm]
    · rw [hasB_no (fun h => hm (this.1 h))]; simp [hm]
  have hnm : (U[i].name.toList == p.name.toList) = decide (kk = k) := by
    rcases idxF_cases (isN U[i].name) L with ⟨h1, _⟩ | ⟨k2, wk, hi2, hkl2, hgk, hpk2, _, _⟩
    · rw [hk] at h1; omega
    · have hkk2 : kk = k2 := by rw [hk] at hi2; omega
      subst hkk2
      have hwn : wk.name.toList = U[i].name.toList := by simpa [isN] using hpk2
      by_cases e : kk = k
      · subst e
        rw [hgk] at hp; injection hp with hp; subst hp
        simp [hwn]
      · simp only [e, decide_false]
        rw [beq_eq_false_iff_ne]
        intro e3
        exact e (parts_ix (usesB_parts h) hgk hp (hwn.trans e3))
  simp only [useF, cnt, hu, hpk]
  rw [hcon, hnm]
  simp only [hud, decide_true, Bool.true_and]
  show _ = if kk = k ∧ ¬ (i : Int) ∈ (runL L U D).2 then _ else _
  by_cases e1 : kk = k <;> by_cases e2 : (i : Int) ∈ (runL L U D).2 <;> simp [e1, e2]
theorem ord_miss {L : List Part} {U : List Use} {name : ByteArray} (h : ordB L U name = true) : usesB L U = true ∧ 0 < (missV L U).length := by
  have h2 := h
  simp only [ordB, Bool.and_eq_true, decide_eq_true_eq] at h2
  refine ⟨h2.1, ?_⟩
  have e : missV L U = missL L U 999 := by rw [missV, if_pos h2.1]
  rw [e]
  rcases Nat.eq_zero_or_pos (missL L U 999).length with h0 | h0
  · have := h2.2.2
    rw [firstV, h0] at this
    simp [firstK] at this
  · exact h0
theorem order_at {L : List Part} (h : partsB L = true) {k : Nat} {c : Part} (hk : L[k]? = some c) : (orderL L)[k]? = some (missOf c) ∧ c.least ≤ c.have_ + missOf c ∧ (0 ≤ missOf c ∧ missOf c ≤ 500) ∧ 0 ≤ c.have_ ∧ c.have_ ≤ 500 := by
  obtain ⟨a1, a2, _⟩ := parts_bd h hk
  refine ⟨by simp [orderL, hk], ?_, ?_, a1⟩ <;> (simp only [missOf]; omega)
end Go.Proofs.Ytlphegjhkchglaa
