/- Rows that a call owns, rewritten in place: one thing set, a tail cleared, the head taken; what a deletion keeps. No condition. -/
import Derived.Test.YtkdnkhbcbcffeaaDoorBase
import Derived.Lib.SliceRun
namespace Go.Proofs.YtkdnkhbcbcffeaaDoor
open Go Go.RowKit

def setL {β : Type} : List β → Nat → List β → List β
  | xs, _, [] => xs
  | xs, o, v :: r => setL (xs.set o v) (o + 1) r
theorem setL_len {β : Type} : ∀ (vs : List β) (xs : List β) (o : Nat), (setL xs o vs).length = xs.length
  | [], _, _ => rfl
  | v :: r, xs, o => by rw [setL, setL_len r, List.length_set]
theorem setL_app {β : Type} (A : List β) : ∀ (vs B : List β) (o : Nat), setL (A ++ B) (A.length + o) vs = A ++ setL B o vs
  | [], _, _ => rfl
  | v :: r, B, o => by
    rw [setL, setL, List.set_append_right _ _ (by omega), show A.length + o - A.length = o by omega, show A.length + o + 1 = A.length + (o + 1) by omega, setL_app A r]
theorem setL_over {β : Type} : ∀ (vs : List β) (A old C : List β), old.length = vs.length → setL (A ++ (old ++ C)) A.length vs = A ++ (vs ++ C)
  | [], A, old, C, h => by
    have : old = [] := List.eq_nil_of_length_eq_zero h
    subst this; rfl
  | v :: r, A, [], C, h => by simp at h
  | v :: r, A, x :: old, C, h => by
    have h1 : (A ++ (x :: old ++ C)).set A.length v = (A ++ [v]) ++ (old ++ C) := by simp
    rw [setL, h1, show A.length + 1 = (A ++ [v]).length by simp, setL_over r (A ++ [v]) old C (by simpa using h)]
    simp
theorem setL_flat {α : Type} {enc : α → List Value} {sz : Nat} (he : ∀ c, (enc c).length = sz) (L : List α) (k : Nat) (hk : k < L.length) (c : α) : setL (L.flatMap enc) (k * sz) (enc c) = (L.set k c).flatMap enc := by
  have h1 : L = L.take k ++ L[k] :: L.drop (k + 1) := by rw [← List.drop_eq_getElem_cons hk, List.take_append_drop]
  have h2 : (L.set k c) = L.take k ++ c :: L.drop (k + 1) := by rw [List.set_eq_take_append_cons_drop, if_pos hk]
  have h3 : ((L.take k).flatMap enc).length = k * sz := by rw [flat_length he, List.length_take, Nat.min_eq_left (by omega)]
  rw [h2]
  conv => lhs; rw [h1]
  rw [List.flatMap_append, List.flatMap_append, List.flatMap_cons, List.flatMap_cons, ← h3]
  exact setL_over (enc c) _ (enc L[k]) _ (by rw [he, he])
theorem setL_take {β : Type} (xs vs : List β) (o : Nat) : (setL xs o vs).take o = xs.take o := by
  by_cases h : o ≤ xs.length
  · have h1 : xs = xs.take o ++ xs.drop o := (List.take_append_drop o xs).symm
    have h2 : (xs.take o).length = o := by rw [List.length_take]; omega
    conv => lhs; rw [h1]
    have h3 := setL_app (xs.take o) vs (xs.drop o) 0
    rw [Nat.add_zero, h2] at h3
    rw [h3, List.take_left' h2]
  · have h1 : ∀ (vs xs : List β) (o : Nat), xs.length ≤ o → setL xs o vs = xs := by
      intro vs
      induction vs with
      | nil => intro xs o _; rfl
      | cons v r ih => intro xs o h; rw [setL, List.set_eq_of_length_le h, ih xs (o + 1) (by omega)]
    rw [h1 vs xs o (by omega)]

section
variable {α : Type} {enc : α → List Value} {sz : Nat} {T : TypeId} {lo : Nat} {w : World} {L : List α} {g n cap : Nat}
theorem own_setL : ∀ (vs : List Value) {w : World} {xs : List Value} (o : Nat), w.ownsRow lo T sz (.slice (some ⟨g, 0, none⟩) n cap) n xs → (w.setCells g o vs).ownsRow lo T sz (.slice (some ⟨g, 0, none⟩) n cap) n (setL xs o vs)
  | [], _, _, _, h => h
  | v :: r, w, xs, o, h => by
    rw [World.setCells, setL]
    exact own_setL r (o + 1) (own_set h o v)
theorem Own.set_ (he : ∀ c, (enc c).length = sz) (h : Own enc sz T lo w (.slice (some ⟨g, 0, none⟩) n cap) L) (hn : L.length = n) {k : Nat} (hk : k < L.length) (c : α) :
    Own enc sz T lo (w.setCells g (k * sz) (enc c)) (.slice (some ⟨g, 0, none⟩) n cap) (L.set k c) := by
  subst hn
  have := own_setL (enc c) (k * sz) h
  rw [setL_flat he L k hk c] at this
  unfold Own
  rw [List.length_set]
  exact this
theorem Own.take_ (he : ∀ c, (enc c).length = sz) {A : Option Addr} (h : Own enc sz T lo w (.slice A n cap) L) {k : Nat} (hk : k ≤ L.length) : Own enc sz T lo w (.slice A k cap) (L.take k) := by
  have hl : (L.take k).length = k := by rw [List.length_take]; omega
  have h3 : ((L.take k).flatMap enc).length = k * sz := by rw [flat_length he, hl]
  have h4 : (L.take k).flatMap enc = (L.flatMap enc).take (k * sz) := by
    conv => rhs; rw [← List.take_append_drop k L, List.flatMap_append]
    rw [List.take_left' h3]
  unfold Own
  rw [hl]
  refine ⟨h3, ?_⟩
  rcases h.2 with ⟨hv, hn⟩ | ⟨g, cap', cur, hv, hb, hh, hc, hm, hs, ht⟩
  · injection hv with a b c
    subst a c
    have : k = 0 := by omega
    subst this
    exact .inl ⟨rfl, rfl⟩
  · injection hv with a b c
    subst a c
    refine .inr ⟨g, cap, cur, rfl, hb, hh, by omega, hm, hs, ?_⟩
    rw [h4, ← ht, List.take_take, Nat.min_eq_left (Nat.mul_le_mul_right sz hk)]
theorem Own.clear_ (he : ∀ c, (enc c).length = sz) (h : Own enc sz T lo w (.slice (some ⟨g, 0, none⟩) n cap) L) (hn : L.length = n) {k : Nat} (hk : k ≤ L.length) (vs : List Value) :
    Own enc sz T lo (w.setCells g (k * sz) vs) (.slice (some ⟨g, 0, none⟩) k cap) (L.take k) := by
  subst hn
  have h1 := own_setL vs (k * sz) h
  have hl : (L.take k).length = k := by rw [List.length_take]; omega
  have h3 : ((L.take k).flatMap enc).length = k * sz := by rw [flat_length he, hl]
  have h4 : (L.take k).flatMap enc = (L.flatMap enc).take (k * sz) := by
    conv => rhs; rw [← List.take_append_drop k L, List.flatMap_append]
    rw [List.take_left' h3]
  unfold Own
  rw [hl]
  refine ⟨h3, ?_⟩
  rcases h1.2 with ⟨hv, _⟩ | ⟨g', cap', cur, hv, hb, hh, hc, hm, hs, ht⟩
  · cases hv
  · injection hv with a b c
    injection a with a
    injection a with a
    subst a c
    refine .inr ⟨g, cap, cur, rfl, hb, hh, by omega, hm, hs, ?_⟩
    have := congrArg (List.take (k * sz)) ht
    rw [setL_take, List.take_take, Nat.min_eq_left (Nat.mul_le_mul_right sz hk)] at this
    rw [h4, this]
theorem Own.there_ (h : Own enc sz T lo w (.slice (some ⟨g, 0, none⟩) n cap) L) (hn : L.length = n) {o m : Nat} (hm : o + m ≤ n * sz) : w.there g o m := fun j hj => by
  subst hn
  obtain ⟨u, hu⟩ := own_there h (j := o + j) (by omega)
  exact ⟨by rw [hu]; rfl, World.ownsRow.frozenAt h _⟩
theorem Own.mono_ {lo' : Nat} {v : Value} (h : Own enc sz T lo w v L) (hb : lo' ≤ lo) : Own enc sz T lo' w v L := by
  refine ⟨h.1, ?_⟩
  rcases h.2 with h0 | ⟨g, c, cur, hv, hg, r⟩
  · exact .inl h0
  · exact .inr ⟨g, c, cur, hv, Nat.le_trans hb hg, r⟩
theorem Own.room {A : Option Addr} (h : Own enc sz T lo w (.slice A n cap) L) (hn : L.length = n) : n ≤ cap := by
  subst hn
  rcases h.2 with ⟨_, h0⟩ | ⟨g, c, cur, hv, hb, hh, hc, _⟩
  · omega
  · injection hv with hA hB hC
    omega
theorem Own.lo_le {A : Option Addr} (h : Own enc sz T lo w (.slice A n cap) L) (hn : 0 < L.length) : ∃ g, A = some ⟨g, 0, none⟩ ∧ lo ≤ g ∧ g < w.heap.size := by
  rcases h.2 with ⟨_, h0⟩ | ⟨g, c, cur, hv, hb, hh, _⟩
  · omega
  · injection hv with hA
    exact ⟨g, hA, hb, (Array.getElem?_eq_some_iff.1 hh).1⟩
end

theorem run_clear_rows {P : Program} (w : World) (t e ty : TypeId) (z : Value) (ht : P.underlying t = some (.slice e)) (hv : ∀ w, (zeroValue e).run P w = .ok z w) (b o n c : Nat) (hn : 0 < n)
    (hth : w.there b o (n * z.cells.size)) (h1 : ∀ v ∈ (Builtin.zeroCells z.cells n).toList, v.oneCell' = true) :
    (Builtin.clear_ #[t] ty #[.slice (some ⟨b, o, none⟩) n c]).run P w = .ok (.tuple #[]) (w.setCells b o (Builtin.zeroCells z.cells n).toList) := by
  have hl : (Builtin.zeroCells z.cells n).toList.length = n * z.cells.size := by simp [Builtin.zeroCells]
  have hst := run_storeCells_cells (P := P) b o (Builtin.zeroCells z.cells n).toList 0 w (fun j hj => by simpa using (hth j (by omega)).1) (fun j hj => by simpa using (hth j (by omega)).2) h1
  simp only [Nat.add_zero] at hst
  obtain ⟨m, rfl⟩ : ∃ m, n = m + 1 := ⟨n - 1, by omega⟩
  simp [Builtin.clear_, run_underlying ht, hv, hst]
theorem zero_one {z : Value} {n : Nat} (h : ∀ j, j < z.cells.size → (z.cells[j]!).oneCell' = true) : ∀ v ∈ (Builtin.zeroCells z.cells n).toList, v.oneCell' = true := by
  intro v hv
  simp only [Builtin.zeroCells, Array.toList_map, List.mem_map] at hv
  obtain ⟨i, hi, rfl⟩ := hv
  have hi' : i < n * z.cells.size := by simpa using hi
  have hp : 0 < z.cells.size := by
    rcases Nat.eq_zero_or_pos z.cells.size with h0 | h0
    · rw [h0, Nat.mul_zero] at hi'; omega
    · exact h0
  exact h _ (Nat.mod_lt _ hp)

/- what is kept of the first k things -/
def keepL {α : Type} (p : α → Bool) (L : List α) (k : Nat) : List α := (L.take k).filter fun x => !p x
section
variable {α : Type} {p : α → Bool} {L : List α} {k : Nat} {c : α}
theorem keep_yes (h : L[k]? = some c) (hp : p c = false) : keepL p L (k + 1) = keepL p L k ++ [c] := by
  obtain ⟨hlt, rfl⟩ := List.getElem?_eq_some_iff.1 h
  unfold keepL; rw [take_snocL L k hlt, List.filter_append]; simp [hp]
theorem keep_no (h : L[k]? = some c) (hp : p c = true) : keepL p L (k + 1) = keepL p L k := by
  obtain ⟨hlt, rfl⟩ := List.getElem?_eq_some_iff.1 h
  unfold keepL; rw [take_snocL L k hlt, List.filter_append]; simp [hp]
theorem keep_len (p : α → Bool) (L : List α) (k : Nat) : (keepL p L k).length ≤ k :=
  Nat.le_trans (List.length_filter_le _ _) (by rw [List.length_take]; omega)
theorem keep_all (hn : ∀ (j : Nat) (d : α), j < k → L[j]? = some d → p d = false) : keepL p L k = L.take k := by
  unfold keepL
  rw [List.filter_eq_self]
  intro x hx
  obtain ⟨j, hj, rfl⟩ := List.mem_iff_getElem.1 hx
  rw [List.getElem_take]
  rw [List.length_take] at hj
  simp [hn j _ (by omega) (List.getElem?_eq_getElem (by omega))]
theorem keep_end (h : L.length ≤ k) : keepL p L k = L.filter fun x => !p x := by unfold keepL; rw [List.take_of_length_le h]
end
/- how a row stands while it is being struck out: M holds what is kept ahead of i, and the rest from j on -/
structure Struck {α : Type} (p : α → Bool) (L M : List α) (i j : Nat) : Prop where
  len : M.length = L.length
  i_eq : i = (keepL p L j).length
  lt : i < j
  low : M.take i = keepL p L j
  high : ∀ t, j ≤ t → M[t]? = L[t]?
section
variable {α : Type} {p : α → Bool} {L M : List α} {i j : Nat} {c : α}
theorem Struck.start {k : Nat} (hk : L[k]? = some c) (hp : p c = true) (hn : ∀ (j : Nat) (d : α), j < k → L[j]? = some d → p d = false) : Struck p L L k (k + 1) := by
  have hlt := (List.getElem?_eq_some_iff.1 hk).1
  have h1 := keep_no hk hp
  rw [keep_all hn] at h1
  exact ⟨rfl, by rw [h1, List.length_take]; omega, by omega, h1.symm, fun _ _ => rfl⟩
theorem Struck.skip (h : Struck p L M i j) (hk : L[j]? = some c) (hp : p c = true) : Struck p L M i (j + 1) :=
  ⟨h.len, by rw [keep_no hk hp]; exact h.i_eq, by have := h.lt; omega, by rw [keep_no hk hp]; exact h.low, fun t ht => h.high t (by omega)⟩
theorem Struck.keep (h : Struck p L M i j) (hk : L[j]? = some c) (hp : p c = false) : Struck p L (M.set i c) (i + 1) (j + 1) := by
  have hlt := (List.getElem?_eq_some_iff.1 hk).1
  have hil : i < M.length := by rw [h.len]; have := h.lt; omega
  refine ⟨by rw [List.length_set]; exact h.len, by rw [keep_yes hk hp, List.length_append, ← h.i_eq]; rfl, by have := h.lt; omega, ?_, fun t ht => ?_⟩
  · rw [keep_yes hk hp, ← h.low, List.take_succ_eq_append_getElem (by rw [List.length_set]; exact hil), List.getElem_set_self, List.take_set_of_le (Nat.le_refl _)]
  · rw [List.getElem?_set_ne (by have := h.lt; omega)]; exact h.high t (by omega)
theorem Struck.at_ (h : Struck p L M i j) (hk : L[j]? = some c) : M[j]? = some c := (h.high j (Nat.le_refl _)).trans hk
end
end Go.Proofs.YtkdnkhbcbcffeaaDoor
