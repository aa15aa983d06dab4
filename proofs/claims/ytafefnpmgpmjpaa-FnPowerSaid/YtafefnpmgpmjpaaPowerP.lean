/- What is served and what is left is the supply; without those that are switched off the rest is served. No program. -/
import Derived.Test.YtafefnpmgpmjpaaServeP
import Derived.Test.YtafefnpmgpmjpaaToolsT
import Derived.Test.YtafefnpmgpmjpaaEmer
namespace Go.Proofs.Ytafefnpmgpmjpaa
open Go Go.RowKit
set_option linter.unusedVariables false
set_option linter.unusedSimpArgs false
def nmC (c : Consumer) : List UInt8 := c.name.toList
def sumW (p : Consumer → Bool) : List Consumer → Int
  | [] => 0
  | c :: r => (if p c then c.watts else 0) + sumW p r
theorem sumW_append (p : Consumer → Bool) : ∀ A B : List Consumer, sumW p (A ++ B) = sumW p A + sumW p B
  | [], B => by simp [sumW]
  | c :: r, B => by simp only [List.cons_append, sumW, sumW_append p r B]; omega
theorem sumW_congr {p q : Consumer → Bool} : ∀ {O : List Consumer}, (∀ c ∈ O, p c = q c) → sumW p O = sumW q O
  | [], _ => rfl
  | c :: r, h => by
    simp only [sumW]
    rw [h c (by simp), sumW_congr (fun d hd => h d (by simp [hd]))]
theorem sumW_perm {p : Consumer → Bool} {A B : List Consumer} (h : A.Perm B) : sumW p A = sumW p B := by
  induction h with
  | nil => rfl
  | cons x _ ih => simp only [sumW, ih]
  | swap x y l => simp only [sumW]; omega
  | trans _ _ h1 h2 => rw [h1, h2]
theorem sumW_bd {p : Consumer → Bool} : ∀ {O : List Consumer}, (∀ c ∈ O, 1 ≤ c.watts ∧ c.watts ≤ 1000000) → 0 ≤ sumW p O ∧ sumW p O ≤ 1000000 * O.length
  | [], _ => by simp [sumW]
  | c :: r, h => by
    have ih := sumW_bd (p := p) (O := r) (fun d hd => h d (by simp [hd]))
    have hc := h c (by simp)
    simp only [sumW, List.length_cons]
    split <;> omega
theorem sumW_step {p : Consumer → Bool} {L : List Consumer} {k : Nat} {c : Consumer} (h : L[k]? = some c) : sumW p (L.take (k + 1)) = sumW p (L.take k) + if p c then c.watts else 0 := by
  obtain ⟨hlt, rfl⟩ := List.getElem?_eq_some_iff.1 h
  rw [take_snocL L k hlt, sumW_append]
  simp [sumW]
/- distinct names -/
theorem allAt_all {p : Nat → Bool} {n : Nat} (h : allAt p n = true) : ∀ k, k < n → p k = true := by
  intro k hk
  cases hp : p k with
  | true => rfl
  | false => rw [allAt_no hk hp] at h; cases h
theorem consB_nodup {L : List Consumer} (h : consB L = true) : (L.map nmC).Nodup := by
  have h2 : allAt (conAt L) L.length = true := by simp only [consB, Bool.and_eq_true] at h; exact h.1
  refine List.pairwise_iff_getElem.2 fun i j hi hj hij he => ?_
  rw [List.length_map] at hi hj
  have hgj := List.getElem?_eq_getElem hj
  have hgi := List.getElem?_eq_getElem hi
  have hc := allAt_all h2 j hj
  rw [List.getElem_map, List.getElem_map] at he
  have hd : (L.take j).any (sameN L[j].name) = true := by
    rw [List.any_eq_true]
    refine ⟨L[i], ?_, ?_⟩
    · refine List.mem_of_getElem? (i := i) ?_
      rw [List.getElem?_take, if_pos hij, hgi]
    · have he2 : L[i].name.toList = L[j].name.toList := he
      simp [sameN, he2]
  rw [con_dup hgj hd] at hc
  cases hc
theorem consB_of {L : List Consumer} (h1 : ∀ c ∈ L, consOne c = true) (h2 : (L.map nmC).Nodup) (h3 : L.length ≤ 8) : consB L = true := by
  rw [cons_all (Nat.le_refl _) (fun j hj => ?_)]
  · exact decide_eq_true h3
  · have hg := List.getElem?_eq_getElem hj
    refine con_ok hg (h1 _ (List.getElem_mem hj)) ?_
    rw [List.any_eq_false]
    intro d hd
    obtain ⟨i, hi⟩ := List.getElem?_of_mem hd
    rw [List.getElem?_take] at hi
    split at hi
    · rename_i hij
      simp only [sameN, Bool.not_eq_true, beq_eq_false_iff_ne]
      intro he
      obtain ⟨hil, rfl⟩ := List.getElem?_eq_some_iff.1 hi
      have h4 := (List.pairwise_iff_getElem.1 h2) i j (by simpa using hil) (by simpa using hj) hij
      rw [List.getElem_map, List.getElem_map] at h4
      exact h4 he
    · cases hi
theorem consB_ones {L : List Consumer} (h : consB L = true) : ∀ c ∈ L, consOne c = true := by
  intro c hc
  obtain ⟨k, hk⟩ := List.getElem?_of_mem hc
  have hlt := (List.getElem?_eq_some_iff.1 hk).1
  have h2 : allAt (conAt L) L.length = true := by simp only [consB, Bool.and_eq_true] at h; exact h.1
  have h3 := allAt_all h2 k hlt
  cases ho : consOne c with
  | true => rfl
  | false => rw [con_bad hk ho] at h3; cases h3
theorem hasT_app (N : List ByteArray) (x y : ByteArray) : hasT (N ++ [x]) y = (hasT N y || (x.toList == y.toList)) := by simp [hasT, List.any_append]
/- served -/
theorem serv_facts (supply : Int) : ∀ (n : Nat) (Q : List Consumer), Q.length = n → (Q.map nmC).Nodup → (∀ c ∈ Q, 1 ≤ c.watts ∧ c.watts ≤ 1000000) → 0 ≤ supply →
    (Q.foldl servS ([], supply)).2 + sumW (fun c => hasT (Q.foldl servS ([], supply)).1 c.name) Q = supply ∧ (∀ c ∈ Q, hasT (Q.foldl servS ([], supply)).1 c.name = false → (Q.foldl servS ([], supply)).2 < c.watts) ∧ (∀ x ∈ (Q.foldl servS ([], supply)).1, ∃ c ∈ Q, x = c.name) ∧ 0 ≤ (Q.foldl servS ([], supply)).2 ∧ (Q.foldl servS ([], supply)).2 ≤ supply
  | 0, Q, hn, _, _, h0 => by
    obtain rfl := List.eq_nil_of_length_eq_zero hn
    exact ⟨by simp [sumW], (fun c hc => by cases hc), (fun x hx => by simp at hx), h0, Int.le_refl _⟩
  | n + 1, O, hn, hnd, hw, h0 => by
    obtain ⟨Q, c, rfl⟩ : ∃ Q c, O = Q ++ [c] := by
      rcases List.eq_nil_or_concat O with rfl | ⟨Q, i, rfl⟩
      · simp at hn
      · exact ⟨Q, i, by simp⟩
    rw [List.map_append] at hnd
    have hnd2 := List.nodup_append.1 hnd
    have hdif : ∀ d ∈ Q, d.name.toList ≠ c.name.toList := fun d hd he => hnd2.2.2 (nmC d) (List.mem_map_of_mem hd) (nmC c) (by simp) he
    obtain ⟨e1, e2, e3, e4, e5⟩ := serv_facts supply n Q (by simpa using hn) hnd2.1 (fun d hd => hw d (by simp [hd])) h0
    have hcw := hw c (by simp)
    rw [List.foldl_append]
    simp only [List.foldl_cons, List.foldl_nil]
    generalize hst : Q.foldl servS ([], supply) = st at *
    obtain ⟨N, s⟩ := st
    simp only at e1 e2 e3 e4 e5
    have hcN : hasT N c.name = false := hasT_no fun d hd he => by
      obtain ⟨q, hq, rfl⟩ := e3 d hd
      exact hdif q hq he
    unfold servS
    split
    · rename_i hle
      simp only at hle
      simp only
      have hs1 : sumW (fun d => hasT (N ++ [c.name]) d.name) Q = sumW (fun d => hasT N d.name) Q := sumW_congr fun d hd => by
        have : (c.name.toList == d.name.toList) = false := by simpa using fun e => hdif d hd e.symm
        rw [hasT_app, this, Bool.or_false]
      refine ⟨?_, fun d hd hf => ?_, fun x hx => ?_, by omega, by omega⟩
      · rw [sumW_append, hs1]
        have : hasT (N ++ [c.name]) c.name = true := by rw [hasT_app]; simp
        simp only [sumW, this, if_true]
        omega
      · rcases List.mem_append.1 hd with h1 | h1
        · rw [hasT_app] at hf
          have hf2 : hasT N d.name = false := by
            cases hh : hasT N d.name with
            | false => rfl
            | true => rw [hh] at hf; simp at hf
          have := e2 d h1 hf2
          omega
        · simp at h1; subst h1
          rw [hasT_app] at hf
          simp at hf
      · rcases List.mem_append.1 hx with h1 | h1
        · obtain ⟨q, hq, e⟩ := e3 x h1
          exact ⟨q, by simp [hq], e⟩
        · exact ⟨c, by simp, by simpa using h1⟩
    · rename_i hle
      simp only at hle
      simp only
      refine ⟨?_, fun d hd hf => ?_, fun x hx => ?_, e4, e5⟩
      · rw [sumW_append]
        simp only [sumW, hcN]
        simp
        exact e1
      · rcases List.mem_append.1 hd with h1 | h1
        · exact e2 d h1 hf
        · simp at h1; subst h1; omega
      · obtain ⟨q, hq, e⟩ := e3 x hx
        exact ⟨q, by simp [hq], e⟩
theorem ord_nodup {gt : Consumer → Consumer → Bool} {L : List Consumer} (h : consB L = true) : ((ordL gt L).map nmC).Nodup := (((ordL_perm L).map nmC).nodup_iff).2 (consB_nodup h)
theorem ordR_perm (L : List Consumer) : (ordR L).Perm L := ordL_perm L
theorem ordF_perm (L : List Consumer) : (ordF L).Perm L := ordL_perm L
theorem ordF_nodup {L : List Consumer} (h : consB L = true) : ((ordF L).map nmC).Nodup := ord_nodup h
theorem serv_law {L : List Consumer} {supply : Int} (h : servB L supply = true) : (sumW (fun c => hasT (servV L supply) c.name) L + servT L supply = supply) ∧ (∀ c ∈ L, hasT (servV L supply) c.name = false → servT L supply < c.watts) ∧ (0 ≤ servT L supply ∧ servT L supply ≤ 2000000) := by
  have h2 := h
  simp only [servB, Bool.and_eq_true, inB_iff] at h2
  obtain ⟨hc, h0, hmax⟩ := h2
  have hw : ∀ c ∈ ordR L, 1 ≤ c.watts ∧ c.watts ≤ 1000000 := fun c hm => (cons_in hc (ord_in hm)).1
  obtain ⟨e1, e2, e3, e4, e5⟩ := serv_facts supply _ (ordR L) rfl (ord_nodup hc) hw h0
  have hV : servV L supply = ((ordR L).foldl servS ([], supply)).1 := by rw [servV, if_pos h, servK, List.take_length]
  have hT : servT L supply = ((ordR L).foldl servS ([], supply)).2 := by rw [servT, if_pos h, servK, List.take_length]
  rw [← hV, ← hT] at e1 e2
  rw [← hT] at e4 e5
  refine ⟨?_, fun c hcL hf => e2 c ((ordL_perm L).mem_iff.2 hcL) hf, e4, by omega⟩
  rw [← sumW_perm (ordR_perm L)]
  omega
/- all are served where the supply is enough -/
theorem serv_all (supply : Int) : ∀ (O : List Consumer) (N : List ByteArray) (s : Int), (∀ c ∈ O, 1 ≤ c.watts ∧ c.watts ≤ 1000000) → sumW (fun _ => true) O ≤ s → (O.foldl servS (N, s)).1.length = N.length + O.length
  | [], N, s, _, _ => by simp
  | c :: r, N, s, hw, hs => by
    have hc := hw c (by simp)
    have hr := sumW_bd (p := fun _ => true) (O := r) (fun d hd => hw d (by simp [hd]))
    simp only [sumW, if_true] at hs
    rw [List.foldl_cons, servS, if_pos (show c.watts ≤ s by omega)]
    rw [serv_all supply r _ _ (fun d hd => hw d (by simp [hd])) (by omega)]
    simp only [List.length_append, List.length_cons, List.length_nil]; omega
theorem serv_all_len {L : List Consumer} {supply : Int} (h : servB L supply = true) (hs : sumW (fun _ => true) L ≤ supply) : (servV L supply).length = L.length := by
  have h2 := h
  simp only [servB, Bool.and_eq_true, inB_iff] at h2
  have hw : ∀ c ∈ ordR L, 1 ≤ c.watts ∧ c.watts ≤ 1000000 := fun c hm => (cons_in h2.1 (ord_in hm)).1
  rw [servV, if_pos h, servK, List.take_length, serv_all supply _ _ _ hw (by rw [sumW_perm (ordR_perm L)]; exact hs), ordR_len]
  simp
/- switched off -/
theorem load_all {L : List Consumer} (h : consB L = true) : ∀ k, k ≤ L.length → loadUp L 9 k = sumW (fun _ => true) (L.take k)
  | 0, _ => by simp [loadUp, sumW]
  | k + 1, hk => by
    have hg := List.getElem?_eq_getElem (show k < L.length by omega)
    have hr := (consB_one h hg).2.1
    rw [loadUp_yes hg hr.2, sumW_step hg, load_all h k (by omega)]
    simp
theorem sumW_true (O : List Consumer) : sumW (fun _ => true) O = (O.map (·.watts)).sum := by
  induction O with
  | nil => rfl
  | cons c r ih => simp only [sumW, if_true, List.map_cons, List.sum_cons, ih]
def restL (L : List Consumer) (N : List ByteArray) : List Consumer := L.filter fun c => !(hasT N c.name)
theorem rest_snoc {L : List Consumer} {N : List ByteArray} {k : Nat} {c : Consumer} (h : L[k]? = some c) : restL (L.take (k + 1)) N = if hasT N c.name then restL (L.take k) N else restL (L.take k) N ++ [c] := by
  obtain ⟨hlt, rfl⟩ := List.getElem?_eq_some_iff.1 h
  rw [take_snocL L k hlt, restL, List.filter_append]
  cases hh : hasT N L[k].name <;> simp [restL, hh]
theorem off_drop {O : List Consumer} (hnd : (O.map nmC).Nodup) (k : Nat) : restL O ((O.take k).map (·.name)) = O.drop k := by
  have e : O = O.take k ++ O.drop k := (List.take_append_drop k O).symm
  have hnd2 : ((O.take k).map nmC ++ (O.drop k).map nmC).Nodup := by rw [← List.map_append, ← e]; exact hnd
  have h3 := List.nodup_append.1 hnd2
  unfold restL
  conv => lhs; rw [e]
  rw [List.filter_append]
  have e1 : (O.take k).filter (fun c => !(hasT (((O.take k ++ O.drop k).take k).map (·.name)) c.name)) = [] := by
    rw [← e]
    rw [List.filter_eq_nil_iff]
    intro c hc
    rw [hasT_yes (List.mem_map_of_mem hc) rfl]
    simp
  have e2 : (O.drop k).filter (fun c => !(hasT (((O.take k ++ O.drop k).take k).map (·.name)) c.name)) = O.drop k := by
    rw [← e]
    rw [List.filter_eq_self]
    intro c hc
    rw [hasT_no]
    · rfl
    · intro d hd he
      obtain ⟨q, hq, rfl⟩ := List.mem_map.1 hd
      exact h3.2.2 (nmC q) (List.mem_map_of_mem hq) (nmC c) (List.mem_map_of_mem hc) he
  rw [e1, e2, List.nil_append]
theorem off_need {O : List Consumer} {need supply : Int} (hneed : need = sumW (fun _ => true) O) (h0 : 0 ≤ supply) : sumW (fun _ => true) (O.drop (offK O need supply)) ≤ supply := by
  have hk : offK O need supply ≤ O.length := by
    have := pos_le (fun j => decide (supply < needK O need j)) (List.range O.length)
    rw [List.length_range] at this
    exact this
  have e : sumW (fun _ => true) O = sumW (fun _ => true) (O.take (offK O need supply)) + sumW (fun _ => true) (O.drop (offK O need supply)) := by
    rw [← sumW_append, List.take_append_drop]
  have e2 : needK O need (offK O need supply) = sumW (fun _ => true) (O.drop (offK O need supply)) := by
    rw [needK, ← sumW_true]; omega
  rcases Nat.lt_or_ge (offK O need supply) O.length with h | h
  · have hst := pos_stop (p := fun j => decide (supply < needK O need j)) (List.range O.length) (offK O need supply) (by
      show (List.range O.length)[offK O need supply]? = _
      rw [List.getElem?_range h])
    have : ¬ supply < needK O need (offK O need supply) := by simpa using hst
    omega
  · rw [List.drop_of_length_le h]
    simpa [sumW] using h0
theorem off_law {L : List Consumer} {supply : Int} (h : servB L supply = true) : servB (restL L (offV L supply)) supply = true ∧ (servV (restL L (offV L supply)) supply).length = (restL L (offV L supply)).length := by
  have h2 := h
  simp only [servB, Bool.and_eq_true] at h2
  obtain ⟨hc, hs⟩ := h2
  have h0 := (inB_iff.1 hs).1
  have hsub : (restL L (offV L supply)).Sublist L := List.filter_sublist
  have hcr : consB (restL L (offV L supply)) = true := consB_of (fun c hm => consB_ones hc c (hsub.subset hm)) ((consB_nodup hc).sublist (hsub.map nmC)) (Nat.le_trans hsub.length_le (consB_len hc))
  have hsr : servB (restL L (offV L supply)) supply = true := by simp only [servB, Bool.and_eq_true]; exact ⟨hcr, hs⟩
  refine ⟨hsr, serv_all_len hsr ?_⟩
  have hV : offV L supply = ((ordF L).take (offK (ordF L) (loadI L 9) supply)).map (·.name) := by rw [offV, if_pos h]
  have hperm : (restL (ordF L) (offV L supply)).Perm (restL L (offV L supply)) := (ordF_perm L).filter _
  rw [← sumW_perm hperm]
  rw [hV, off_drop (ordF_nodup hc)]
  refine off_need ?_ h0
  rw [loadI, load_all hc _ (Nat.le_refl _), List.take_length, sumW_perm (ordF_perm L)]
end Go.Proofs.Ytafefnpmgpmjpaa
