/- In how many ways a pattern is met: the plain functions. No program. -/
import Derived.Test.YtmnepaedkilnoaaAsked
namespace Go.Proofs.Ytmnepaedkilnoaa
open Go Go.RowKit
set_option linter.unusedVariables false
/- the counts of the first k codes, one more event met: from the last code down to the second -/
def kDown (cs : List Int) (code : Int) : Nat → List Int → List Int
  | 0, W => W
  | k + 1, W => kDown cs code k (if cs[k + 1]? = some code then W.set (k + 1) (W.getD (k + 1) 0 + W.getD k 0) else W)
section
variable {cs : List Int} {code x u v : Int} {k : Nat} {W : List Int}
theorem kDown_hit (hc : cs[k + 1]? = some x) (hx : x = code) (h1 : W[k + 1]? = some u) (h0 : W[k]? = some v) : kDown cs code (k + 1) W = kDown cs code k (W.set (k + 1) (u + v)) := by
  subst hx
  rw [kDown, if_pos hc, List.getD_eq_getElem?_getD, List.getD_eq_getElem?_getD, h1, h0]; rfl
theorem kDown_miss (hc : cs[k + 1]? = some x) (hx : ¬ x = code) : kDown cs code (k + 1) W = kDown cs code k W := by
  rw [kDown, if_neg (by rw [hc]; simpa using hx)]
end
theorem kDown_len (cs : List Int) (code : Int) : ∀ (k : Nat) (W : List Int), (kDown cs code k W).length = W.length
  | 0, W => rfl
  | k + 1, W => by
    rw [kDown, kDown_len cs code k]
    split <;> simp
/- every count is between 0 and B; within the way down: those below k are old, the others at most doubled -/
def Cnt (B : Int) (W : List Int) : Prop := ∀ (j : Nat) (x : Int), W[j]? = some x → 0 ≤ x ∧ x ≤ B
def CntK (B : Int) (k : Nat) (W : List Int) : Prop := ∀ (j : Nat) (x : Int), W[j]? = some x → 0 ≤ x ∧ x ≤ 2 * B ∧ (j ≤ k → x ≤ B)
theorem CntK.start {B : Int} {k : Nat} {W : List Int} (h : Cnt B W) (hB : 0 ≤ B) : CntK B k W := fun j x hx => by
  have := h j x hx
  exact ⟨this.1, by omega, fun _ => this.2⟩
theorem CntK.all {B : Int} {k : Nat} {W : List Int} (h : CntK B k W) : Cnt (2 * B) W := fun j x hx => ⟨(h j x hx).1, (h j x hx).2.1⟩
theorem CntK.miss {B : Int} {k : Nat} {W : List Int} (h : CntK B (k + 1) W) : CntK B k W := fun j x hx => ⟨(h j x hx).1, (h j x hx).2.1, fun hj => (h j x hx).2.2 (by omega)⟩
theorem CntK.hit {B : Int} {k : Nat} {W : List Int} {u v : Int} (h : CntK B (k + 1) W) (h1 : W[k + 1]? = some u) (h0 : W[k]? = some v) : CntK B k (W.set (k + 1) (u + v)) := fun j x hx => by
  have hu := h _ _ h1
  have hv := h _ _ h0
  have a := hu.2.2 (Nat.le_refl _)
  have b := hv.2.2 (by omega)
  rw [List.getElem?_set] at hx
  by_cases hj : k + 1 = j
  · rw [if_pos hj] at hx
    split at hx
    · injection hx with hx
      subst hx
      exact ⟨by omega, by omega, fun _ => by omega⟩
    · cases hx
  · rw [if_neg hj] at hx
    exact ⟨(h j x hx).1, (h j x hx).2.1, fun hj' => (h j x hx).2.2 (by omega)⟩
def wGo (R : List Event) (p : Pat) (t0 : Int) : Nat → Nat → List Int → List Int
  | 0, _, W => W
  | f + 1, i, W => match R[i]? with
    | none => W
    | some e => if p.within < e.time - t0 then W else wGo R p t0 f (i + 1) (kDown p.codes e.code (p.codes.length - 1) W)
section
variable {R : List Event} {p : Pat} {t0 : Int} {f i : Nat} {W : List Int} {e : Event}
theorem wGo_end (h : R.length ≤ i) : wGo R p t0 f i W = W := by
  cases f with
  | zero => rfl
  | succ f => rw [wGo, List.getElem?_eq_none h]
theorem wGo_late (he : R[i]? = some e) (h : p.within < e.time - t0) : wGo R p t0 f i W = W := by
  cases f with
  | zero => rfl
  | succ f => rw [wGo, he]; simp only []; rw [if_pos h]
theorem wGo_on (he : R[i]? = some e) (h : ¬ p.within < e.time - t0) : wGo R p t0 (f + 1) i W = wGo R p t0 f (i + 1) (kDown p.codes e.code (p.codes.length - 1) W) := by
  rw [wGo, he]; simp only []; rw [if_neg h]
end
def ways0 (n : Nat) : List Int := 1 :: List.replicate (n - 1) 0
theorem ways0_len {n : Nat} (h : 0 < n) : (ways0 n).length = n := by simp [ways0]; omega
theorem ways0_cnt {n : Nat} {B : Int} (hB : 1 ≤ B) : Cnt B (ways0 n) := fun j x hx => by
  have := List.mem_of_getElem? hx
  simp only [ways0, List.mem_cons, List.mem_replicate] at this
  omega
def wFrom (R : List Event) (p : Pat) (first : Nat) : Int := match R[first]? with
  | none => 0
  | some e => if p.codes[0]? = some e.code then (wGo R p e.time (R.length - (first + 1)) (first + 1) (ways0 p.codes.length)).getD (p.codes.length - 1) 0 else 0
theorem wFrom_no {R : List Event} {p : Pat} {first : Nat} {e : Event} {c : Int} (he : R[first]? = some e) (hc : p.codes[0]? = some c) (h : ¬ e.code = c) : wFrom R p first = 0 := by
  rw [wFrom, he]; simp only []; rw [if_neg (by rw [hc]; simpa using fun h' => h h'.symm)]
theorem wFrom_yes {R : List Event} {p : Pat} {first : Nat} {e : Event} {c u : Int} {W : List Int} (he : R[first]? = some e) (hc : p.codes[0]? = some c) (h : e.code = c) (hW : wGo R p e.time (R.length - (first + 1)) (first + 1) (ways0 p.codes.length) = W) (hu : W[p.codes.length - 1]? = some u) : wFrom R p first = u := by
  rw [wFrom, he]; simp only []; rw [if_pos (by rw [hc, h]), hW, List.getD_eq_getElem?_getD, hu]; rfl
def waysUp (R : List Event) (p : Pat) : Nat → Int
  | 0 => 0
  | k + 1 => waysUp R p k + wFrom R p k
def cntI (R : List Event) (P : List Pat) (fault : Int) : Int := match pickP R P fault with
  | none => 0
  | some p => if 10000 < waysUp R p R.length then 0 else waysUp R p R.length
def cntB (R : List Event) (P : List Pat) (fault : Int) : Bool := match pickP R P fault with
  | none => false
  | some p => decide (waysUp R p R.length ≤ 10000)
/- bounds of a power of two by the place in the record -/
theorem pow_step (i : Nat) : (2 : Int) ^ (i + 1) = 2 * 2 ^ i := by rw [Int.pow_succ, Int.mul_comm]
theorem pow_bd {i : Nat} (h : i ≤ 30) : 1 ≤ (2 : Int) ^ i ∧ (2 : Int) ^ i ≤ 1073741824 := by
  have h1 : 2 ^ i ≤ 2 ^ 30 := Nat.pow_le_pow_right (by omega) h
  have h0 : 1 ≤ 2 ^ i := Nat.one_le_two_pow
  have e : (2 : Int) ^ i = ((2 ^ i : Nat) : Int) := by simp
  rw [e]
  omega
/- a row of zeros that a call makes -/
theorem own_zeros {T lo n : Nat} {w : World} (hlo : lo ≤ w.heap.size) (hn : n ≤ maxLen) : Own encI 1 T lo (w.alloc (.cells (madeCells #[.int .i64 0] n) T)) (.slice (some ⟨w.heap.size, 0, none⟩) n n) (List.replicate n 0) := by
  have hx : (List.replicate n (0 : Int)).flatMap encI = List.replicate n (Value.int .i64 0) := by
    induction n with
    | zero => rfl
    | succ m ih => rw [List.replicate_succ, List.flatMap_cons, ih (by omega), List.replicate_succ]; rfl
  have hl := World.ownsRow_lit (e := T) (size := 1) w (madeCells #[.int .i64 0] n) n hlo hn (by rw [size_madeCells, Nat.mul_one])
  rw [toList_madeCells_one, ← hx] at hl
  unfold Own
  rw [List.length_replicate]
  exact hl
theorem flat_int (L : List Int) : L.flatMap encI = L.map fun x => Value.int .i64 x := by
  induction L with
  | nil => rfl
  | cons a l ih => rw [List.flatMap_cons, ih]; rfl
theorem own_made1 {T lo n j : Nat} {w : World} (hlo : lo ≤ w.heap.size) (hn : n ≤ maxLen) : Own encI 1 T lo (w.alloc (.cells ((madeCells #[.int .i64 0] n).setIfInBounds j (.int .i64 1)) T)) (.slice (some ⟨w.heap.size, 0, none⟩) n n) ((List.replicate n 0).set j 1) := by
  have hl := World.ownsRow_lit (e := T) (size := 1) w ((madeCells #[.int .i64 0] n).setIfInBounds j (.int .i64 1)) n hlo hn (by rw [Array.size_setIfInBounds, size_madeCells, Nat.mul_one])
  rw [Array.toList_setIfInBounds, toList_madeCells_one] at hl
  have hx : ((List.replicate n (0 : Int)).set j 1).flatMap encI = (List.replicate n (Value.int .i64 0)).set j (.int .i64 1) := by
    rw [flat_int, List.map_set, List.map_replicate]
  unfold Own
  rw [List.length_set, List.length_replicate, hx]
  exact hl
theorem zeros_set0 {n : Nat} (h : 0 < n) : (List.replicate n (0 : Int)).set 0 1 = ways0 n := by
  obtain ⟨m, rfl⟩ : ∃ m, n = m + 1 := ⟨n - 1, by omega⟩
  simp [ways0, List.replicate_succ]
theorem zeros_set1 {n : Nat} (h : 0 < n) : (List.replicate (n + 1) (0 : Int)).set 1 1 = 0 :: ways0 n := by
  obtain ⟨m, rfl⟩ : ∃ m, n = m + 1 := ⟨n - 1, by omega⟩
  simp [ways0, List.replicate_succ]
theorem cons_at {W : List Int} {n : Nat} {u : Int} (hn : 0 < n) (h : W[n - 1]? = some u) : ((0 : Int) :: W)[n]? = some u := by
  obtain ⟨m, rfl⟩ : ∃ m, n = m + 1 := ⟨n - 1, by omega⟩
  simpa using h
end Go.Proofs.Ytmnepaedkilnoaa
