/- Putting a shift into a plan: the plain law. -/
import Derived.Test.YtfaicjlpncidgaaHours
import Derived.Test.YtfaicjlpncidgaaInShift
import Derived.Test.YtfaicjlpncidgaaBsShift
namespace Go.Proofs.Ytfaicjlpncidgaa
open Go Go.RowKit
/- how many things at the head meet p -/
def posOf {α : Type} (p : α → Bool) (L : List α) : Nat := (L.takeWhile p).length
section
variable {α : Type} {p q : α → Bool}
theorem pos_le (p : α → Bool) : ∀ L : List α, posOf p L ≤ L.length
  | [] => Nat.le_refl _
  | x :: r => by
    have := pos_le p r
    unfold posOf at *
    rw [List.takeWhile_cons]
    split <;> simp <;> omega
theorem pos_low : ∀ (L : List α) (j : Nat) (c : α), j < posOf p L → L[j]? = some c → p c = true
  | [], j, c, _, h => by simp at h
  | x :: r, j, c, hj, h => by
    unfold posOf at hj
    rw [List.takeWhile_cons] at hj
    split at hj
    · rename_i hx
      cases j with
      | zero => simp at h; subst h; exact hx
      | succ j => exact pos_low r j c (by unfold posOf; simpa using hj) (by simpa using h)
    · simp at hj
theorem pos_stop : ∀ (L : List α) (c : α), L[posOf p L]? = some c → p c = false
  | [], c, h => by simp at h
  | x :: r, c, h => by
    unfold posOf at h
    rw [List.takeWhile_cons] at h
    split at h
    · rename_i hx
      exact pos_stop r c (by unfold posOf; simpa using h)
    · rename_i hx
      simp at h; subst h; simpa using hx
theorem pos_is : ∀ (L : List α) (k : Nat), k ≤ L.length → (∀ (j : Nat) (c : α), j < k → L[j]? = some c → p c = true) → (∀ c, L[k]? = some c → p c = false) → posOf p L = k
  | [], k, hk, _, _ => by simp at hk; subst hk; rfl
  | x :: r, 0, _, _, h2 => by
    have := h2 x rfl
    simp [posOf, this]
  | x :: r, k + 1, hk, h1, h2 => by
    have hx := h1 0 x (by omega) rfl
    have := pos_is r k (by simpa using hk) (fun j c hj hc => h1 (j + 1) c (by omega) (by simpa using hc)) (fun c hc => h2 c (by simpa using hc))
    unfold posOf at *
    rw [List.takeWhile_cons, if_pos hx]
    simp [this]
theorem pos_congr {L : List α} (h : ∀ x ∈ L, p x = q x) : posOf p L = posOf q L := by
  refine pos_is L _ (pos_le q L) (fun j c hj hc => ?_) (fun c hc => ?_)
  · rw [h c (List.mem_of_getElem? hc)]; exact pos_low L j c hj hc
  · rw [h c (List.mem_of_getElem? hc)]; exact pos_stop L c hc
theorem pos_high {L : List α} (mono : ∀ (i j : Nat) (c d : α), i < j → L[i]? = some c → L[j]? = some d → p d = true → p c = true) {j : Nat} {c : α} (hj : posOf p L ≤ j) (hc : L[j]? = some c) : p c = false := by
  cases hp : p c
  · rfl
  · have hlt := (List.getElem?_eq_some_iff.1 hc).1
    have hg := List.getElem?_eq_getElem (show posOf p L < L.length by omega)
    have hs := pos_stop L _ hg
    rcases Nat.lt_or_eq_of_le hj with h | h
    · have := mono _ _ _ _ h hg hc hp
      rw [hs] at this; cases this
    · rw [← h, hg] at hc
      injection hc with hc
      rw [← hc, hs] at hp; cases hp
end
def lowS (s x : Shift) : Bool := decide (cmpS x s < 0)
def atW (c : Shift) : Int := wrap64 (wrap64 (3 * c.day) + c.part)
def lowT (s x : Shift) : Bool := decide (atW x < atW s) || (atW x == atW s && decide (x.who < s.who))
theorem cmpS_trans {a b c : Shift} (h1 : cmpS a b < 0) (h2 : cmpS b c < 0) : cmpS a c < 0 := by
  rw [cmpS_neg] at *
  omega
theorem plan_rise {staff : List Worker} {plan : List Shift} (h : planB staff plan = true) : ∀ j, j < plan.length → planAt staff plan j = true := by
  simp only [planB, Bool.and_eq_true] at h
  exact fun j hj => allAt_at h.2.2.1 hj
theorem plan_one {staff : List Worker} {plan : List Shift} (h : planB staff plan = true) {j : Nat} {c : Shift} (hc : plan[j]? = some c) : oneS staff c = true := by
  have := plan_rise h j (List.getElem?_eq_some_iff.1 hc).1
  simp only [planAt, riseAt, hc, Bool.and_eq_true] at this
  exact this.1.1
theorem plan_sorted {staff : List Worker} {plan : List Shift} (h : planB staff plan = true) : ∀ (j i : Nat) (c d : Shift), i < j → plan[i]? = some c → plan[j]? = some d → cmpS c d < 0 := by
  intro j
  induction j with
  | zero => intro i c d hi; omega
  | succ j ih =>
    intro i c d hi hc hd
    have hl := (List.getElem?_eq_some_iff.1 hd).1
    have h1 := plan_rise h (j + 1) hl
    have hg := List.getElem?_eq_getElem (show j < plan.length by omega)
    simp only [planAt, riseAt, hd, Nat.add_sub_cancel, hg, Bool.and_eq_true] at h1
    have h2 : cmpS plan[j] d < 0 := by simpa [ltS] using h1.1.2
    rcases Nat.lt_or_eq_of_le (Nat.lt_succ_iff.1 hi) with h3 | h3
    · exact cmpS_trans (ih i c _ h3 hc hg) h2
    · subst h3; rw [hg] at hc; injection hc with hc; rw [← hc]; exact h2
def putB (staff : List Worker) (plan : List Shift) (s : Shift) : Bool := planB staff (insL plan (posOf (lowS s) plan) s)
def putL (staff : List Worker) (plan : List Shift) (s : Shift) : List Shift := if putB staff plan s then insL plan (posOf (lowS s) plan) s else []
def putRB (staff : List Worker) (plan : List Shift) (s : Shift) : Bool := planB staff plan && putB staff plan s
def putRL (staff : List Worker) (plan : List Shift) (s : Shift) : List Shift := if planB staff plan then putL staff plan s else []
theorem ins_at {α : Type} {L : List α} {i : Nat} {c : α} (h : i ≤ L.length) : (insL L i c)[i]? = some c := by
  have hl : (L.take i).length = i := by rw [List.length_take]; omega
  rw [insL, List.getElem?_append_right (by omega), hl]; simp
theorem put_bad {staff : List Worker} {plan : List Shift} {s : Shift} {k : Nat} (hk : k ≤ plan.length) (h : partB s.day s.part = false) : planB staff (insL plan k s) = false := by
  have hg := ins_at (c := s) hk
  exact plan_no (List.getElem?_eq_some_iff.1 hg).1 (planAt_rise (rise_bad hg (by simp [oneS, h])))
theorem low_same {s x : Shift} (hs : partB s.day s.part = true) (hx : Bd x) : lowT s x = lowS s x := by
  obtain ⟨⟨_, _⟩, _, _⟩ := hx
  obtain ⟨⟨_, _⟩, _, _⟩ := partB_bd hs
  have e1 : atW x = 3 * x.day + x.part := by unfold atW wrap64; omega
  have e2 : atW s = 3 * s.day + s.part := by unfold atW wrap64; omega
  have e3 := cmpS_neg x s
  rw [Bool.eq_iff_iff]
  simp only [lowT, lowS, e1, e2, Bool.or_eq_true, Bool.and_eq_true, decide_eq_true_eq, beq_iff_eq]
  rw [e3]
  omega
theorem pos_same {staff : List Worker} {plan : List Shift} {s : Shift} (hp : planB staff plan = true) (hs : partB s.day s.part = true) : posOf (lowT s) plan = posOf (lowS s) plan :=
  pos_congr fun x hx => by
    obtain ⟨j, hj, rfl⟩ := List.mem_iff_getElem.1 hx
    exact low_same hs (oneS_bd _ (plan_one hp (List.getElem?_eq_getElem hj)))
theorem put_same {staff : List Worker} {plan : List Shift} {s : Shift} (hp : planB staff plan = true) : planB staff (insL plan (posOf (lowT s) plan) s) = putB staff plan s := by
  cases hs : partB s.day s.part
  · rw [put_bad (pos_le _ _) hs, putB, put_bad (pos_le _ _) hs]
  · rw [pos_same hp hs, putB]
theorem putL_same {staff : List Worker} {plan : List Shift} {s : Shift} (hp : planB staff plan = true) (hb : putB staff plan s = true) : insL plan (posOf (lowT s) plan) s = putL staff plan s := by
  have hs : partB s.day s.part = true := by
    cases hs : partB s.day s.part
    · rw [putB, put_bad (pos_le _ _) hs] at hb; cases hb
    · rfl
  rw [pos_same hp hs, putL, if_pos hb]
theorem putL_len (staff : List Worker) (plan : List Shift) (s : Shift) : (putL staff plan s).length ≤ 40 := by
  unfold putL
  split
  · rename_i h; exact planB_len h
  · exact Nat.zero_le _
theorem putRL_len (staff : List Worker) (plan : List Shift) (s : Shift) : (putRL staff plan s).length ≤ 40 := by
  unfold putRL
  split
  · exact putL_len staff plan s
  · exact Nat.zero_le _
theorem low_mono {staff : List Worker} {plan : List Shift} {s : Shift} (hp : planB staff plan = true) : ∀ (i j : Nat) (c d : Shift), i < j → plan[i]? = some c → plan[j]? = some d → lowS s d = true → lowS s c = true := by
  intro i j c d hij hc hd h
  simp only [lowS, decide_eq_true_eq] at *
  exact cmpS_trans (plan_sorted hp j i c d hij hc hd) h
end Go.Proofs.Ytfaicjlpncidgaa
