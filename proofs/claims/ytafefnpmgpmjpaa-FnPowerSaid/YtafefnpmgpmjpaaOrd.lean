/- Stable insertion: a thing is laid behind all that are not greater, found from the right; the library's insertion sort does just that; it goes with a filter. No program. -/
import Derived.Test.YtafefnpmgpmjpaaPos
import Derived.Sort.Defs
namespace Go.Proofs.Ytafefnpmgpmjpaa
open Go Go.RowKit
set_option linter.unusedVariables false
set_option linter.unusedSimpArgs false
def posR {α : Type} (p : α → Bool) (L : List α) : Nat := L.length - posOf p L.reverse
section
variable {α : Type} {p : α → Bool}
theorem posR_le (p : α → Bool) (L : List α) : posR p L ≤ L.length := Nat.sub_le _ _
theorem posR_nil : posR p ([] : List α) = 0 := rfl
theorem posR_yes {A : List α} {c : α} (h : p c = true) : posR p (A ++ [c]) = posR p A := by
  have : posOf p (A ++ [c]).reverse = posOf p A.reverse + 1 := by simp [posOf, List.takeWhile_cons, h]
  unfold posR
  rw [this, List.length_append, List.length_singleton]
  omega
theorem posR_no {A : List α} {c : α} (h : p c = false) : posR p (A ++ [c]) = (A ++ [c]).length := by
  have : posOf p (A ++ [c]).reverse = 0 := by simp [posOf, List.takeWhile_cons, h]
  unfold posR
  rw [this]; omega
theorem posR_high {L : List α} {j : Nat} {c : α} (hj : posR p L ≤ j) (hc : L[j]? = some c) : p c = true := by
  have hlt := (List.getElem?_eq_some_iff.1 hc).1
  have hle := pos_le p L.reverse
  rw [List.length_reverse] at hle
  unfold posR at hj
  refine pos_low L.reverse (L.length - 1 - j) c (by omega) ?_
  rw [List.getElem?_reverse (by omega), show L.length - 1 - (L.length - 1 - j) = j by omega]
  exact hc
theorem posR_low {L : List α} {c : α} (h0 : 0 < posR p L) (hc : L[posR p L - 1]? = some c) : p c = false := by
  have hle := pos_le p L.reverse
  rw [List.length_reverse] at hle
  have h1 : posR p L = L.length - posOf p L.reverse := rfl
  refine pos_stop L.reverse c ?_
  rw [List.getElem?_reverse (by omega), show L.length - 1 - posOf p L.reverse = posR p L - 1 by omega]
  exact hc
theorem posR_is {L : List α} {k : Nat} (hk : k ≤ L.length) (h1 : ∀ (j : Nat) (c : α), k ≤ j → L[j]? = some c → p c = true) (h2 : ∀ c, 0 < k → L[k - 1]? = some c → p c = false) : posR p L = k := by
  have : posOf p L.reverse = L.length - k := by
    refine pos_is L.reverse (L.length - k) (by rw [List.length_reverse]; omega) (fun j c hj hc => ?_) (fun c hc => ?_)
    · rw [List.getElem?_reverse (by omega)] at hc
      exact h1 _ c (by omega) hc
    · have hlt := (List.getElem?_eq_some_iff.1 hc).1
      rw [List.length_reverse] at hlt
      rw [List.getElem?_reverse (by omega), show L.length - 1 - (L.length - k) = k - 1 by omega] at hc
      exact h2 c (by omega) hc
  unfold posR
  rw [this]; omega
end
/- the row that a stable insertion sort makes -/
def insS {α : Type} (gt : α → α → Bool) (out : List α) (x : α) : List α := insL out (posR (fun c => gt c x) out) x
def ordL {α : Type} (gt : α → α → Bool) (L : List α) : List α := L.foldl (insS gt) []
section
variable {α : Type} {gt : α → α → Bool}
theorem ordL_snoc (L : List α) (x : α) : ordL gt (L ++ [x]) = insS gt (ordL gt L) x := by simp [ordL, List.foldl_append]
theorem ordL_take {L : List α} {k : Nat} (h : k < L.length) : ordL gt (L.take (k + 1)) = insS gt (ordL gt (L.take k)) L[k] := by rw [take_snocL L k h, ordL_snoc]
theorem insL_perm (L : List α) (k : Nat) (x : α) : (insL L k x).Perm (x :: L) := by
  unfold insL
  refine List.perm_middle.trans ?_
  rw [List.take_append_drop]
theorem ord_perm_acc : ∀ (L acc : List α), (L.foldl (insS gt) acc).Perm (acc ++ L)
  | [], acc => by simp
  | x :: r, acc => by
    rw [List.foldl_cons]
    refine (ord_perm_acc r _).trans ?_
    refine ((insL_perm acc _ x).append_right r).trans ?_
    rw [List.cons_append]
    exact List.perm_middle.symm
theorem ordL_perm (L : List α) : (ordL gt L).Perm L := by simpa [ordL] using ord_perm_acc (gt := gt) L []
theorem ordL_len (L : List α) : (ordL gt L).length = L.length := (ordL_perm L).length_eq
end
/- the library's insertion sort -/
section
variable {α : Type} [Inhabited α] (lt : α → α → Bool)
theorem bang_of {d : Array α} {k : Nat} {x : α} (h : d.toList[k]? = some x) : d[k]! = x := by
  rw [Array.getElem?_toList] at h
  obtain ⟨hlt, he⟩ := Array.getElem?_eq_some_iff.1 h
  rw [getElem!_pos d k hlt, he]
theorem swp_list {d : Array α} {A B : List α} {c x : α} (h : d.toList = A ++ c :: x :: B) : (Sort.swp d (A.length + 1) A.length).toList = A ++ x :: c :: B := by
  have h1 : d[A.length]! = c := bang_of (by rw [h]; simp)
  have h2 : d[A.length + 1]! = x := bang_of (by rw [h]; simp)
  unfold Sort.swp
  rw [h1, h2, Array.toList_setIfInBounds, Array.toList_setIfInBounds, h]
  simp [List.set_append_right]
theorem insInner_list : ∀ (j : Nat) (d : Array α) (A B : List α) (x : α), d.toList = A ++ x :: B → A.length = j → (Sort.insInner lt 0 j d).toList = insS (fun c x => lt x c) A x ++ B
  | 0, d, A, B, x, h, hA => by
    have : A = [] := List.eq_nil_of_length_eq_zero hA
    subst this
    simpa [Sort.insInner, insS, insL, posR, posOf] using h
  | j + 1, d, A, B, x, h, hA => by
    obtain ⟨A', c, rfl⟩ : ∃ A' c, A = A' ++ [c] := by
      rcases List.eq_nil_or_concat A with rfl | ⟨A', c, rfl⟩
      · simp at hA
      · exact ⟨A', c, by simp⟩
    have hj : A'.length = j := by simpa using hA
    subst hj
    have h' : d.toList = A' ++ c :: x :: B := by simpa using h
    have h1 : d[A'.length]! = c := bang_of (by rw [h']; simp)
    have h2 : d[A'.length + 1]! = x := bang_of (by rw [h']; simp)
    rw [Sort.insInner, h1, h2]
    cases hl : lt x c
    · simp only [Bool.and_false, Bool.false_eq_true, if_false]
      rw [h', insS, posR_no hl, insL_end]
      simp
    · have hp : (decide (A'.length + 1 > 0) && true) = true := by simp
      rw [if_pos hp, insInner_list A'.length _ A' (c :: B) x (swp_list h') rfl]
      have hle := posR_le (fun c => lt x c) A'
      unfold insS
      rw [posR_yes (p := fun c => lt x c) hl]
      unfold insL
      rw [List.take_append_of_le_length hle, List.drop_append_of_le_length hle]
      simp
theorem insOuter_list (b : Nat) : ∀ (n i : Nat) (d : Array α) (A B : List α), d.toList = A ++ B → A.length = i → B.length = n → i + n = b → (Sort.insOuter lt 0 b i d).toList = B.foldl (insS fun c x => lt x c) A
  | 0, i, d, A, B, h, hA, hB, hb => by
    have : B = [] := List.eq_nil_of_length_eq_zero hB
    subst this
    rw [Sort.insOuter, if_neg (by omega), h]
    simp
  | n + 1, i, d, A, x :: B, h, hA, hB, hb => by
    have h1 := insInner_list lt i d A B x h hA
    rw [Sort.insOuter, if_pos (by omega), List.foldl_cons]
    exact insOuter_list b n (i + 1) _ _ B h1 (by unfold insS; rw [insL_len _ _ _ (posR_le _ _), hA]) (by simpa using hB) (by omega)
theorem insertionSort_list (d : Array α) : (Sort.insertionSort lt d 0 d.size).toList = ordL (fun c x => lt x c) d.toList := by
  unfold Sort.insertionSort ordL
  cases h : d.toList with
  | nil =>
    have : d.size = 0 := by rw [← Array.length_toList, h]; rfl
    rw [this, Sort.insOuter, if_neg (by omega), h]
    rfl
  | cons x r =>
    have hs : d.size = r.length + 1 := by rw [← Array.length_toList, h]; rfl
    rw [insOuter_list lt d.size r.length (0 + 1) d [x] r (by rw [h]; rfl) rfl rfl (by omega)]
    simp [insS, insL, posR, posOf]
end
/- sorted rows, by a key -/
section
variable {α : Type} (key : α → Int)
def gtK (c x : α) : Bool := decide (key x < key c)
def SortedK (L : List α) : Prop := L.Pairwise fun a b => key a ≤ key b
variable {key}
theorem ins_halves {L : List α} (hs : SortedK key L) (x : α) : L.filter (fun c => decide (key c ≤ key x)) = L.take (posR (fun c => gtK key c x) L) ∧ L.filter (fun c => decide (key x < key c)) = L.drop (posR (fun c => gtK key c x) L) := by
  have hk := posR_le (fun c => gtK key c x) L
  have hhi : ∀ c ∈ L.drop (posR (fun c => gtK key c x) L), key x < key c := fun c hc => by
    obtain ⟨i, hi, rfl⟩ := List.mem_iff_getElem.1 hc
    have h1 : L[posR (fun c => gtK key c x) L + i]? = some (L.drop (posR (fun c => gtK key c x) L))[i] := by rw [← List.getElem?_drop, List.getElem?_eq_getElem hi]
    have := posR_high (p := fun c => gtK key c x) (Nat.le_add_right _ i) h1
    simpa [gtK] using this
  have hlo : ∀ c ∈ L.take (posR (fun c => gtK key c x) L), key c ≤ key x := fun c hc => by
    obtain ⟨i, hi, rfl⟩ := List.mem_iff_getElem.1 hc
    rw [List.length_take] at hi
    rw [List.getElem_take]
    have hl : posR (fun c => gtK key c x) L - 1 < L.length := by omega
    have h1 := posR_low (p := fun c => gtK key c x) (by omega) (List.getElem?_eq_getElem hl)
    have h2 : ¬ key x < key L[posR (fun c => gtK key c x) L - 1] := of_decide_eq_false h1
    rcases Nat.lt_or_ge i (posR (fun c => gtK key c x) L - 1) with h3 | h3
    · have := List.pairwise_iff_getElem.1 hs i _ (by omega) hl h3
      omega
    · have h4 : i = posR (fun c => gtK key c x) L - 1 := by omega
      subst h4
      omega
  generalize posR (fun c => gtK key c x) L = k at *
  refine ⟨?_, ?_⟩
  · conv => lhs; rw [← List.take_append_drop k L]
    rw [List.filter_append, List.filter_eq_self.2 (fun c hc => by simpa using hlo c hc), List.filter_eq_nil_iff.2 (fun c hc => by have := hhi c hc; simp; omega), List.append_nil]
  · conv => lhs; rw [← List.take_append_drop k L]
    rw [List.filter_append, List.filter_eq_nil_iff.2 (fun c hc => by have := hlo c hc; simp; omega), List.filter_eq_self.2 (fun c hc => by simpa using hhi c hc), List.nil_append]
theorem ins_filter {L : List α} (hs : SortedK key L) (x : α) : insS (gtK key) L x = L.filter (fun c => decide (key c ≤ key x)) ++ x :: L.filter (fun c => decide (key x < key c)) := by
  obtain ⟨h1, h2⟩ := ins_halves hs x
  rw [h1, h2]; rfl
theorem ins_sorted {L : List α} (hs : SortedK key L) (x : α) : SortedK key (insS (gtK key) L x) := by
  rw [ins_filter hs]
  refine List.pairwise_append.2 ⟨hs.filter _, List.pairwise_cons.2 ⟨fun b hb => ?_, hs.filter _⟩, fun a ha b hb => ?_⟩
  · have := (List.mem_filter.1 hb).2
    simp at this; omega
  · have h1 := (List.mem_filter.1 ha).2
    rcases List.mem_cons.1 hb with rfl | hb
    · simpa using h1
    · have h2 := (List.mem_filter.1 hb).2
      simp at h1 h2; omega
theorem ord_sorted_acc : ∀ (L acc : List α), SortedK key acc → SortedK key (L.foldl (insS (gtK key)) acc)
  | [], acc, h => h
  | x :: r, acc, h => ord_sorted_acc r _ (ins_sorted h x)
theorem ordL_sorted (L : List α) : SortedK key (ordL (gtK key) L) := ord_sorted_acc L [] List.Pairwise.nil
theorem ins_filter_yes {L : List α} (hs : SortedK key L) (q : α → Bool) {x : α} (hx : q x = true) : (insS (gtK key) L x).filter q = insS (gtK key) (L.filter q) x := by
  rw [ins_filter hs, ins_filter (hs.filter q), List.filter_append, List.filter_cons, if_pos hx]
  simp only [List.filter_filter]
  congr 1
  · exact List.filter_congr fun a _ => Bool.and_comm _ _
  · congr 1
    exact List.filter_congr fun a _ => Bool.and_comm _ _
theorem ins_filter_no {L : List α} (hs : SortedK key L) (q : α → Bool) {x : α} (hx : q x = false) : (insS (gtK key) L x).filter q = L.filter q := by
  have h1 : (insS (gtK key) L x).filter q = (L.filter fun c => decide (key c ≤ key x)).filter q ++ (L.filter fun c => decide (key x < key c)).filter q := by
    rw [ins_filter hs, List.filter_append, List.filter_cons, if_neg (by simp [hx])]
  have h2 : L.filter (fun c => decide (key c ≤ key x)) ++ L.filter (fun c => decide (key x < key c)) = L.take (posR (fun c => gtK key c x) L) ++ L.drop (posR (fun c => gtK key c x) L) := by
    obtain ⟨h3, h4⟩ := ins_halves hs x
    rw [h3, h4]
  rw [h1, ← List.filter_append, h2, List.take_append_drop]
theorem ord_filter_acc (q : α → Bool) : ∀ (L acc : List α), SortedK key acc → (L.foldl (insS (gtK key)) acc).filter q = (L.filter q).foldl (insS (gtK key)) (acc.filter q)
  | [], acc, _ => rfl
  | x :: r, acc, h => by
    rw [List.foldl_cons, ord_filter_acc q r _ (ins_sorted h x), List.filter_cons]
    cases hx : q x
    · rw [ins_filter_no h q hx]; rfl
    · rw [ins_filter_yes h q hx]; rfl
theorem ord_filter (q : α → Bool) (L : List α) : (ordL (gtK key) L).filter q = ordL (gtK key) (L.filter q) := ord_filter_acc q L [] List.Pairwise.nil
end
/- numbers, sorted -/
def putI (l : List Int) (n : Int) : List Int := insL l (posOf (fun c => decide (c < n)) l) n
def srtI (M : List Int) : List Int := M.foldl putI []
theorem srtI_snoc (M : List Int) (n : Int) : srtI (M ++ [n]) = putI (srtI M) n := by simp [srtI, List.foldl_append]
theorem srt_perm_acc : ∀ (L acc : List Int), (L.foldl putI acc).Perm (acc ++ L)
  | [], acc => by simp
  | x :: r, acc => by
    rw [List.foldl_cons]
    refine (srt_perm_acc r _).trans ?_
    refine ((insL_perm acc _ x).append_right r).trans ?_
    rw [List.cons_append]
    exact List.perm_middle.symm
theorem srtI_perm (M : List Int) : (srtI M).Perm M := by simpa [srtI] using srt_perm_acc M []
theorem putI_sorted {l : List Int} (h : l.Pairwise (· ≤ ·)) (n : Int) : (putI l n).Pairwise (· ≤ ·) := by
  have mono : ∀ (i j : Nat) (c d : Int), i < j → l[i]? = some c → l[j]? = some d → decide (d < n) = true → decide (c < n) = true := fun i j c d hij hi hj hd => by
    obtain ⟨h1, rfl⟩ := List.getElem?_eq_some_iff.1 hi
    obtain ⟨h2, rfl⟩ := List.getElem?_eq_some_iff.1 hj
    have := List.pairwise_iff_getElem.1 h i j h1 h2 hij
    simp at hd ⊢; omega
  have hlo : ∀ c ∈ l.take (posOf (fun c => decide (c < n)) l), c < n := fun c hc => by
    obtain ⟨i, hi, rfl⟩ := List.mem_iff_getElem.1 hc
    rw [List.length_take] at hi
    have := pos_low (p := fun c => decide (c < n)) l i l[i] (by omega) (List.getElem?_eq_getElem (by omega))
    rw [List.getElem_take]
    simpa using this
  have hhi : ∀ c ∈ l.drop (posOf (fun c => decide (c < n)) l), n ≤ c := fun c hc => by
    obtain ⟨i, hi, rfl⟩ := List.mem_iff_getElem.1 hc
    have h1 : l[posOf (fun c => decide (c < n)) l + i]? = some (l.drop (posOf (fun c => decide (c < n)) l))[i] := by rw [← List.getElem?_drop, List.getElem?_eq_getElem hi]
    have := of_decide_eq_false (pos_high (p := fun c => decide (c < n)) mono (Nat.le_add_right _ i) h1)
    omega
  unfold putI insL
  refine List.pairwise_append.2 ⟨h.sublist (List.take_sublist _ _), List.pairwise_cons.2 ⟨fun b hb => hhi b hb, h.sublist (List.drop_sublist _ _)⟩, fun a ha b hb => ?_⟩
  rcases List.mem_cons.1 hb with rfl | hb
  · exact Int.le_of_lt (hlo a ha)
  · have := hlo a ha; have := hhi b hb; omega
theorem srt_sorted_acc : ∀ (L acc : List Int), acc.Pairwise (· ≤ ·) → (L.foldl putI acc).Pairwise (· ≤ ·)
  | [], acc, h => h
  | x :: r, acc, h => srt_sorted_acc r _ (putI_sorted h x)
theorem srtI_sorted (M : List Int) : (srtI M).Pairwise (· ≤ ·) := srt_sorted_acc M [] List.Pairwise.nil
theorem srtI_is {M Q : List Int} (hq : Q.Pairwise (· ≤ ·)) (h : Q.Perm M) : Q = srtI M :=
  List.Perm.eq_of_pairwise (le := (· ≤ ·)) (fun a b _ _ h1 h2 => Int.le_antisymm h1 h2) hq (srtI_sorted M) (h.trans (srtI_perm M).symm)
end Go.Proofs.Ytafefnpmgpmjpaa
