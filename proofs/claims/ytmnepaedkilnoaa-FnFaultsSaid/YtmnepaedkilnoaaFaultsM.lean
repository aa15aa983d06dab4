/- Plain facts on records, patterns and matches: no program in sight. -/
import Derived.Test.YtmnepaedkilnoaaStEvent
import Derived.Test.YtmnepaedkilnoaaStPattern
namespace Go.Proofs.Ytmnepaedkilnoaa
open Go Go.RowKit
set_option linter.unusedVariables false
def evB (c : Event) : Bool := inB c.time 0 100000 && inB c.code 1 20
def evLt (d c : Event) : Bool := decide (d.time ≤ c.time)
abbrev recB (L : List Event) : Bool := riseB evB evLt 30 L
def codesB (l : List Int) : Bool := l.all fun n => inB n 1 20
def patB (p : Pat) : Bool := inB p.fault 1 99 && (inB p.codes.length 1 5 && (codesB p.codes && inB p.within 0 1000))
def patLt (d c : Pat) : Bool := decide (d.fault < c.fault)
abbrev patsB (L : List Pat) : Bool := riseB patB patLt 6 L
theorem recB_bd {R : List Event} (h : recB R = true) {k : Nat} {c : Event} (hk : R[k]? = some c) : (0 ≤ c.time ∧ c.time ≤ 100000) ∧ (1 ≤ c.code ∧ c.code ≤ 20) := by
  have := riseB_one h k c hk
  simpa only [evB, Bool.and_eq_true, inB_iff] using this
theorem patB_bd {p : Pat} (h : patB p = true) : (1 ≤ p.fault ∧ p.fault ≤ 99) ∧ (1 ≤ p.codes.length ∧ p.codes.length ≤ 5) ∧ (0 ≤ p.within ∧ p.within ≤ 1000) := by
  simp only [patB, Bool.and_eq_true, inB_iff] at h
  exact ⟨h.1, by omega, h.2.2.2⟩
/- the match of a pattern that begins with one event and ends first: at the round before event i, with what is matched so far -/
def mGo (R : List Event) (p : Pat) (t0 : Int) (first : Nat) : Nat → Nat → List Int → List Int
  | 0, _, _ => []
  | f + 1, i, out => match R[i]? with
    | none => []
    | some e => if p.within < e.time - t0 then [] else
      match p.codes[out.length]? with
      | none => []
      | some c => if e.code = c then (if out.length + 1 = p.codes.length then out ++ [(i : Int)] else mGo R p t0 first f (i + 1) (out ++ [(i : Int)]))
        else if i = first then [] else mGo R p t0 first f (i + 1) out
def mFrom (R : List Event) (p : Pat) (first : Nat) : List Int := match R[first]? with
  | none => []
  | some e => mGo R p e.time first (R.length - first) first []
section
variable {R : List Event} {p : Pat} {t0 : Int} {first f i : Nat} {out : List Int} {e : Event} {c : Int}
theorem mGo_end (h : R.length ≤ i) : mGo R p t0 first f i out = [] := by
  cases f with
  | zero => rfl
  | succ f => rw [mGo, List.getElem?_eq_none h]
theorem mGo_late (he : R[i]? = some e) (h : p.within < e.time - t0) : mGo R p t0 first f i out = [] := by
  cases f with
  | zero => rfl
  | succ f => simp only [mGo, he]; rw [if_pos h]
theorem mGo_last (he : R[i]? = some e) (h : ¬ p.within < e.time - t0) (hc : p.codes[out.length]? = some c) (h1 : e.code = c) (hl : out.length + 1 = p.codes.length) : mGo R p t0 first (f + 1) i out = out ++ [(i : Int)] := by
  simp only [mGo, he, hc]; rw [if_neg h, if_pos h1, if_pos hl]
theorem mGo_hit (he : R[i]? = some e) (h : ¬ p.within < e.time - t0) (hc : p.codes[out.length]? = some c) (h1 : e.code = c) (hl : ¬ out.length + 1 = p.codes.length) : mGo R p t0 first (f + 1) i out = mGo R p t0 first f (i + 1) (out ++ [(i : Int)]) := by
  simp only [mGo, he, hc]; rw [if_neg h, if_pos h1, if_neg hl]
theorem mGo_none (he : R[i]? = some e) (hc : p.codes[out.length]? = some c) (h1 : ¬ e.code = c) (hi : i = first) : mGo R p t0 first f i out = [] := by
  cases f with
  | zero => rfl
  | succ f => simp only [mGo, he, hc]; rw [if_neg h1, if_pos hi]; split <;> rfl
theorem mGo_miss (he : R[i]? = some e) (h : ¬ p.within < e.time - t0) (hc : p.codes[out.length]? = some c) (h1 : ¬ e.code = c) (hi : ¬ i = first) : mGo R p t0 first (f + 1) i out = mGo R p t0 first f (i + 1) out := by
  simp only [mGo, he, hc]; rw [if_neg h, if_neg h1, if_neg hi]
end
/- what a match is: rising places of the record from the first on, as many as codes, each with its code -/
def Places (R : List Event) (lo hi : Nat) (l : List Int) : Prop := ∀ x ∈ l, ∃ j : Nat, x = (j : Int) ∧ lo ≤ j ∧ j < hi
theorem Places.nil {R : List Event} {lo hi : Nat} : Places R lo hi [] := fun x hx => by cases hx
theorem Places.snoc {R : List Event} {lo hi i : Nat} {l : List Int} (h : Places R lo hi l) (h1 : lo ≤ i) (h2 : i < hi) : Places R lo hi (l ++ [(i : Int)]) := fun x hx => by
  rcases List.mem_append.1 hx with hx | hx
  · exact h x hx
  · exact ⟨i, by simpa using hx, h1, h2⟩
theorem mGo_places (R : List Event) (p : Pat) (t0 : Int) (first : Nat) : ∀ (f i : Nat) (out : List Int), first ≤ i → Places R first R.length out → Places R first R.length (mGo R p t0 first f i out)
  | 0, _, _, _, _ => .nil
  | f + 1, i, out, hi, ho => by
    unfold mGo
    split
    · exact .nil
    · rename_i e he
      have hlt : i < R.length := (List.getElem?_eq_some_iff.1 he).1
      split
      · exact .nil
      · split
        · exact .nil
        · split
          · split
            · exact ho.snoc hi hlt
            · exact mGo_places R p t0 first f (i + 1) _ (by omega) (ho.snoc hi hlt)
          · split
            · exact .nil
            · exact mGo_places R p t0 first f (i + 1) _ (by omega) ho
theorem mFrom_places (R : List Event) (p : Pat) (first : Nat) : Places R first R.length (mFrom R p first) := by
  unfold mFrom
  split
  · exact .nil
  · exact mGo_places R p _ first _ first [] (Nat.le_refl _) .nil
theorem mGo_len (R : List Event) (p : Pat) (t0 : Int) (first : Nat) : ∀ (f i : Nat) (out : List Int), mGo R p t0 first f i out = [] ∨ (mGo R p t0 first f i out).length = p.codes.length
  | 0, _, _ => .inl rfl
  | f + 1, i, out => by
    unfold mGo
    split
    · exact .inl rfl
    · split
      · exact .inl rfl
      · split
        · exact .inl rfl
        · split
          · split
            · rename_i h; right; simpa using h
            · exact mGo_len R p t0 first f (i + 1) _
          · split
            · exact .inl rfl
            · exact mGo_len R p t0 first f (i + 1) _
theorem mFrom_len (R : List Event) (p : Pat) (first : Nat) : mFrom R p first = [] ∨ (mFrom R p first).length = p.codes.length := by
  unfold mFrom
  split
  · exact .inl rfl
  · exact mGo_len R p _ first _ first []
/- the first match -/
def mFirst (R : List Event) (p : Pat) : List Int := match (List.range R.length).find? fun i => !(mFrom R p i).isEmpty with
  | some i => mFrom R p i
  | none => []
theorem mFirst_hit {R : List Event} {p : Pat} {k : Nat} (hk : k < R.length) (hn : ∀ j, j < k → mFrom R p j = []) (h : mFrom R p k ≠ []) : mFirst R p = mFrom R p k := by
  have : (List.range R.length).find? (fun i => !(mFrom R p i).isEmpty) = some k := by
    rw [List.find?_range_eq_some]
    refine ⟨by simpa using h, List.mem_range.2 hk, fun j hj => by simp [hn j hj]⟩
  rw [mFirst, this]
theorem mFirst_none {R : List Event} {p : Pat} (hn : ∀ j, j < R.length → mFrom R p j = []) : mFirst R p = [] := by
  have : (List.range R.length).find? (fun i => !(mFrom R p i).isEmpty) = none := by
    rw [List.find?_range_eq_none]
    intro i hi
    simp [hn i hi]
  rw [mFirst, this]
theorem mFirst_cases (R : List Event) (p : Pat) : mFirst R p = [] ∨ ∃ k, mFirst R p = mFrom R p k := by
  unfold mFirst
  split
  · exact .inr ⟨_, rfl⟩
  · exact .inl rfl
theorem mFirst_places (R : List Event) (p : Pat) : Places R 0 R.length (mFirst R p) := by
  rcases mFirst_cases R p with h | ⟨k, h⟩
  · rw [h]; exact .nil
  · rw [h]; intro x hx; obtain ⟨j, h1, _, h2⟩ := mFrom_places R p k x hx; exact ⟨j, h1, Nat.zero_le _, h2⟩
theorem mFirst_len (R : List Event) (p : Pat) : (mFirst R p).length ≤ p.codes.length := by
  rcases mFirst_cases R p with h | ⟨k, h⟩
  · rw [h]; exact Nat.zero_le _
  · rw [h]; rcases mFrom_len R p k with h | h <;> rw [h]
    · exact Nat.zero_le _
    · exact Nat.le_refl _
theorem upto_nil {R : List Event} {p : Pat} {k : Nat} (hn : ∀ j, j < k → mFrom R p j = []) (h : mFrom R p k = []) : ∀ j, j < k + 1 → mFrom R p j = [] := fun j hj => by
  rcases Nat.lt_or_eq_of_le (Nat.lt_succ_iff.1 hj) with h1 | h1
  · exact hn j h1
  · rw [h1]; exact h
/- the time at which a match ends, and the smallest of them -/
def endT (R : List Event) (l : List Int) : Int := match l.getLast? with
  | none => -1
  | some x => match R[x.toNat]? with
    | none => -1
    | some e => e.time
def detStep (least : Int) (R : List Event) (l : List Int) : Int := if l = [] then least else if least < 0 ∨ endT R l < least then endT R l else least
def detUp (R : List Event) (p : Pat) : Nat → Int
  | 0 => -1
  | k + 1 => detStep (detUp R p k) R (mFrom R p k)
def detT (R : List Event) (p : Pat) : Int := detUp R p R.length
theorem endT_at {R : List Event} {l : List Int} {first : Nat} (h : Places R first R.length l) (hl : l ≠ []) : ∃ (j : Nat) (e : Event), l[l.length - 1]? = some (j : Int) ∧ R[j]? = some e ∧ endT R l = e.time := by
  obtain ⟨x, hx⟩ : ∃ x, l.getLast? = some x := by
    cases hh : l.getLast? with
    | none => exact absurd (List.getLast?_eq_none_iff.1 hh) hl
    | some x => exact ⟨x, rfl⟩
  obtain ⟨j, rfl, _, hj⟩ := h x (List.mem_of_getLast? hx)
  refine ⟨j, R[j], by rw [← List.getLast?_eq_getElem?]; exact hx, List.getElem?_eq_getElem hj, ?_⟩
  simp [endT, hx, List.getElem?_eq_getElem hj]
theorem detUp_bd {R : List Event} (p : Pat) (hR : recB R = true) : ∀ k, -1 ≤ detUp R p k ∧ detUp R p k ≤ 100000
  | 0 => by simp [detUp]
  | k + 1 => by
    have ih := detUp_bd p hR k
    unfold detUp detStep
    split
    · exact ih
    · rename_i hne
      obtain ⟨j, e, _, he, ht⟩ := endT_at (mFrom_places R p k) hne
      have := recB_bd hR he
      split <;> omega
end Go.Proofs.Ytmnepaedkilnoaa
