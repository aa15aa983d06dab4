/- Consumers that are served, that are switched off: plain. No program. -/
import Derived.Test.YtafefnpmgpmjpaaServeC
import Derived.Test.YtafefnpmgpmjpaaBat
namespace Go.Proofs.Ytafefnpmgpmjpaa
open Go Go.RowKit
set_option linter.unusedVariables false
set_option linter.unusedSimpArgs false
def gtR (c x : Consumer) : Bool := decide (x.rank < c.rank)
def gtF (c x : Consumer) : Bool := decide (c.rank < x.rank) || (decide (c.rank = x.rank) && decide (c.watts < x.watts))
theorem gtR_is : (fun c x => ltOf rankC x c) = gtR := by
  funext c x
  simp only [gtR, ltOf, rankC, cmpI_neg]
theorem offC_neg (x c : Consumer) : offC x c < 0 ↔ c.rank < x.rank ∨ (c.rank = x.rank ∧ c.watts < x.watts) := by
  have h1 := @cmpI_neg c.rank x.rank
  have h2 := @cmpI_zero c.rank x.rank
  have h3 := @cmpI_neg c.watts x.watts
  have h4 := @cmpI_zero c.watts x.watts
  simp only [offC, orL]
  split <;> (try split) <;> omega
theorem gtF_is : (fun c x => ltOf offC x c) = gtF := by
  funext c x
  rw [Bool.eq_iff_iff]
  simp only [gtF, ltOf, decide_eq_true_eq, Bool.or_eq_true, Bool.and_eq_true, offC_neg]
def ordR (L : List Consumer) : List Consumer := ordL gtR L
def ordF (L : List Consumer) : List Consumer := ordL gtF L
theorem ordR_len (L : List Consumer) : (ordR L).length = L.length := ordL_len L
theorem ordF_len (L : List Consumer) : (ordF L).length = L.length := ordL_len L
theorem ord_in {gt : Consumer → Consumer → Bool} {L : List Consumer} {c : Consumer} (h : c ∈ ordL gt L) : c ∈ L := (ordL_perm L).mem_iff.1 h
theorem cons_in {L : List Consumer} (h : consB L = true) {c : Consumer} (hc : c ∈ L) : (1 ≤ c.watts ∧ c.watts ≤ 1000000) ∧ (1 ≤ c.rank ∧ c.rank ≤ 9) := by
  obtain ⟨k, hk, rfl⟩ := List.mem_iff_getElem.1 hc
  have := consB_one h (List.getElem?_eq_getElem hk)
  exact ⟨this.1, this.2.1⟩
/- served -/
def servS (s : List ByteArray × Int) (c : Consumer) : List ByteArray × Int := if c.watts ≤ s.2 then (s.1 ++ [c.name], s.2 - c.watts) else s
def servK (O : List Consumer) (supply : Int) (k : Nat) : List ByteArray × Int := (O.take k).foldl servS ([], supply)
theorem serv_yes {O : List Consumer} {supply : Int} {k : Nat} {c : Consumer} {N : List ByteArray} {s : Int} (h : O[k]? = some c) (hs : servK O supply k = (N, s)) (hle : c.watts ≤ s) : servK O supply (k + 1) = (N ++ [c.name], s - c.watts) := by
  obtain ⟨hlt, rfl⟩ := List.getElem?_eq_some_iff.1 h
  unfold servK at *
  rw [take_snocL O k hlt, List.foldl_append, hs]
  simp only [List.foldl_cons, List.foldl_nil, servS]
  rw [if_pos hle]
theorem serv_no {O : List Consumer} {supply : Int} {k : Nat} {c : Consumer} {N : List ByteArray} {s : Int} (h : O[k]? = some c) (hs : servK O supply k = (N, s)) (hle : ¬ c.watts ≤ s) : servK O supply (k + 1) = (N, s) := by
  obtain ⟨hlt, rfl⟩ := List.getElem?_eq_some_iff.1 h
  unfold servK at *
  rw [take_snocL O k hlt, List.foldl_append, hs]
  simp only [List.foldl_cons, List.foldl_nil, servS]
  rw [if_neg hle]
def servB (L : List Consumer) (supply : Int) : Bool := consB L && inB supply 0 2000000
def servV (L : List Consumer) (supply : Int) : List ByteArray := if servB L supply then (servK (ordR L) supply (ordR L).length).1 else []
def servT (L : List Consumer) (supply : Int) : Int := if servB L supply then (servK (ordR L) supply (ordR L).length).2 else 0
theorem servK_len (O : List Consumer) (supply : Int) : ∀ k, k ≤ O.length → (servK O supply k).1.length ≤ k
  | 0, _ => by simp [servK]
  | k + 1, hk => by
    have ih := servK_len O supply k (by omega)
    have hg := List.getElem?_eq_getElem (show k < O.length by omega)
    cases hs : servK O supply k with
    | mk N s =>
      rw [hs] at ih
      by_cases hle : (O[k]'(by omega)).watts ≤ s
      · rw [serv_yes hg hs hle]; simp at ih ⊢; omega
      · rw [serv_no hg hs hle]; simp at ih ⊢; omega
theorem servV_len (L : List Consumer) (supply : Int) : (servV L supply).length ≤ 8 := by
  unfold servV
  split
  · rename_i h
    simp only [servB, Bool.and_eq_true] at h
    have := servK_len (ordR L) supply (ordR L).length (Nat.le_refl _)
    rw [ordR_len] at this ⊢
    have := consB_len h.1
    omega
  · exact Nat.zero_le _
/- switched off -/
def needK (O : List Consumer) (need : Int) (k : Nat) : Int := need - ((O.take k).map (·.watts)).sum
theorem need_step {O : List Consumer} {need : Int} {k : Nat} {c : Consumer} (h : O[k]? = some c) : needK O need (k + 1) = needK O need k - c.watts := by
  obtain ⟨hlt, rfl⟩ := List.getElem?_eq_some_iff.1 h
  unfold needK
  rw [take_snocL O k hlt, List.map_append, List.sum_append]
  simp; omega
theorem need_bd {O : List Consumer} {need : Int} (hO : ∀ c ∈ O, 1 ≤ c.watts ∧ c.watts ≤ 1000000) : ∀ k, k ≤ O.length → need - 1000000 * k ≤ needK O need k ∧ needK O need k ≤ need
  | 0, _ => by simp [needK]
  | k + 1, hk => by
    have ih := need_bd (need := need) hO k (by omega)
    have hg := List.getElem?_eq_getElem (show k < O.length by omega)
    have := hO _ (List.getElem_mem (show k < O.length by omega))
    rw [need_step hg]
    omega
def offK (O : List Consumer) (need supply : Int) : Nat := posOf (fun j => decide (supply < needK O need j)) (List.range O.length)
theorem offK_is {O : List Consumer} {need supply : Int} {k : Nat} (hk : k ≤ O.length) (h1 : ∀ j, j < k → supply < needK O need j) (h2 : k < O.length → needK O need k ≤ supply) : offK O need supply = k := by
  refine pos_is _ k (by rw [List.length_range]; exact hk) (fun j c hj hc => ?_) (fun c hc => ?_)
  · obtain ⟨_, rfl⟩ := List.getElem?_eq_some_iff.1 hc
    rw [List.getElem_range]; exact decide_eq_true (h1 j hj)
  · obtain ⟨hlt, rfl⟩ := List.getElem?_eq_some_iff.1 hc
    rw [List.length_range] at hlt
    rw [List.getElem_range]; exact decide_eq_false (by have := h2 hlt; omega)
def offV (L : List Consumer) (supply : Int) : List ByteArray := if servB L supply then ((ordF L).take (offK (ordF L) (loadI L 9) supply)).map (·.name) else []
theorem offV_len (L : List Consumer) (supply : Int) : (offV L supply).length ≤ 8 := by
  unfold offV
  split
  · rename_i h
    simp only [servB, Bool.and_eq_true] at h
    have := consB_len h.1
    rw [List.length_map, List.length_take, ordF_len]; omega
  · exact Nat.zero_le _
def namesK (O : List Consumer) (k : Nat) : List ByteArray := (O.take k).map (·.name)
theorem names_step {O : List Consumer} {k : Nat} {c : Consumer} (h : O[k]? = some c) : namesK O (k + 1) = namesK O k ++ [c.name] := by
  obtain ⟨hlt, rfl⟩ := List.getElem?_eq_some_iff.1 h
  unfold namesK; rw [take_snocL O k hlt, List.map_append]; rfl
theorem names_len {O : List Consumer} {k : Nat} (hk : k ≤ O.length) : (namesK O k).length = k := by simp [namesK]; omega
end Go.Proofs.Ytafefnpmgpmjpaa
