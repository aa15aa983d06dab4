/- A slice is appended to a row of the call's own: at an operation and at a step of a region that draws its order. No condition. -/
import Derived.Test.YtafefnpmgpmjpaaDel
import Derived.Laws.AppendOwnNone
import Derived.Deep.RegionHeldLaw
namespace Go.Proofs.Ytafefnpmgpmjpaa
open Go Go.RowKit
section
variable {α : Type} {enc : α → List Value} {sz : Nat} {P : Program} {w : World} {o : Oper} {a : Act}
theorem wp_app {K : Act → World → Prop} {Q : Exit → Act → World → Prop} (s x : Operand) (t e : TypeId)
    (ho : o.op = .call { callee := .builtin .append, args := #[s, x], argTypes := #[t, t] }) (ht : P.underlying t = some (.slice e)) {z : Value} {bytes : Nat}
    (hinfo : (P.info? e).map (fun i => (i.zero, i.size, i.bytes)) = some (some z, sz, bytes)) (hzs : z.cells.size = sz) (hsz : 0 < sz) (hby : bytes ≤ 1000)
    (he : ∀ c, (enc c).length = sz) (h1 : ∀ c, ∀ u ∈ enc c, u.oneCell' = true)
    (lo : Nat) (A : Option Addr) (cap : Nat) (L M : List α) (B : Option Addr) (m c n q : Nat) (hn' : L.length = n) (hq : n + m = q)
    (hs : a.eval s = .slice A n cap) (hx : a.eval x = .slice B m c) (hm : M.length = m) (hsrc : ∀ ad, B = some ad → ∀ j u, (M.flatMap enc)[j]? = some u → w.cell? (ad.add j) = some u) (hnil : B = none → m = 0 ∧ c = 0)
    (hown : Own enc sz e lo w (.slice A n cap) L) (hlo : lo ≤ w.heap.size) (hn : q ≤ 100000000)
    (h : ∀ A' cap' w', Own enc sz e lo w' (.slice A' q cap') (L ++ M) → Below lo w w' → w.grownBy w' (Value.slice A n cap).ownBlock → K (a.put o.dst (.slice A' q cap')) w') : o.wp P a w K Q := by
  subst hn'; subst hq
  obtain ⟨i, hi, hz, hsi, hbi⟩ := info_parts hinfo
  cases B with
  | none =>
    obtain ⟨rfl, rfl⟩ := hnil rfl
    have : M = [] := List.eq_nil_of_length_eq_zero hm
    subst this
    have hrun := run_append_owned_none (P := P) (w := w) lo t o.type e i sz ht hi _ L.length (L.flatMap enc) hown
    have hk := h A cap w (by rw [List.append_nil]; exact hown) (Below.refl _ _) ⟨rfl, rfl, rfl, Nat.le_refl _, fun _ _ _ => rfl⟩
    unfold Oper.wp
    simp [execOp, ho, resolve, invoke, builtin, hs, hx, hrun, Result.andThen]
    exact hk
  | some ad =>
    have h2 : ∀ u ∈ M.flatMap enc, u.oneCell' = true := by
      intro u hu
      obtain ⟨c, _, hc⟩ := List.mem_flatMap.1 hu
      exact h1 c u hc
    refine wp_append_own w s x t ho lo e i z sz bytes ht hi hz hsi hbi hzs hsz _ L.length (L.flatMap enc) hs hown ad m c (M.flatMap enc) hx (by rw [flat_length he, hm]) (hsrc ad rfl) h2 (by unfold maxLen; omega) ?_ hlo ?_
    · calc (L.length + m) * bytes ≤ 100000000 * 1000 := Nat.mul_le_mul (by omega) hby
        _ ≤ 140737488355328 := by decide
    · intro v' w' ho' hg _
      have hb : Below lo w w' := (Below.refl lo w).grown hg hlo (fun k hk => (hown.lt k hk).1)
      have hex : ∃ A' cap', v' = .slice A' (L.length + m) cap' := by
        rcases ho'.2 with ⟨hv, hn0⟩ | ⟨g, cap', _, hv, _⟩
        · exact ⟨none, 0, by rw [hn0]; exact hv⟩
        · exact ⟨_, _, hv⟩
      obtain ⟨A', cap', rfl⟩ := hex
      refine h A' cap' w' ?_ hb hg
      unfold Own
      rw [List.length_append, List.flatMap_append, hm]
      exact ho'
theorem step_app {ops : Array Oper} {K : Act → World → Prop} {Q : Exit → Act → World → Prop} {E : Prop} (hgd : o.guard = none) (s x : Operand) (t e : TypeId)
    (ho : o.op = .call { callee := .builtin .append, args := #[s, x], argTypes := #[t, t] }) (ht : P.underlying t = some (.slice e)) {z : Value} {bytes : Nat}
    (hinfo : (P.info? e).map (fun i => (i.zero, i.size, i.bytes)) = some (some z, sz, bytes)) (hzs : z.cells.size = sz) (hsz : 0 < sz) (hby : bytes ≤ 1000)
    (he : ∀ c, (enc c).length = sz) (h1 : ∀ c, ∀ u ∈ enc c, u.oneCell' = true)
    (lo : Nat) (A : Option Addr) (cap : Nat) (L M : List α) (B : Option Addr) (m c n q : Nat) (hn' : L.length = n) (hq : n + m = q)
    (hs : a.eval s = .slice A n cap) (hx : a.eval x = .slice B m c) (hm : M.length = m) (hsrc : ∀ ad, B = some ad → ∀ j u, (M.flatMap enc)[j]? = some u → w.cell? (ad.add j) = some u) (hnil : B = none → m = 0 ∧ c = 0)
    (hown : Own enc sz e lo w (.slice A n cap) L) (hlo : lo ≤ w.heap.size) (hn : q ≤ 100000000)
    (h : ∀ A' cap' w', Own enc sz e lo w' (.slice A' q cap') (L ++ M) → Below lo w w' → w.grownBy w' (Value.slice A n cap).ownBlock → K (a.put o.dst (.slice A' q cap')) w') :
    if Region.wanted o (yielded ops a.tmps) = true then Oper.wp P o a w K Q else E := by
  have hw : Region.wanted o (yielded ops a.tmps) = true := by simp [Region.wanted, hgd]
  rw [if_pos hw]
  exact wp_app s x t e ho ht hinfo hzs hsz hby he h1 lo A cap L M B m c n q hn' hq hs hx hm hsrc hnil hown hlo hn h
theorem wpList_app {ops : Array Oper} {rest : List Oper} {Q : Exit → Act → World → Prop} (hgd : o.guard = none) (s x : Operand) (t e : TypeId)
    (ho : o.op = .call { callee := .builtin .append, args := #[s, x], argTypes := #[t, t] }) (ht : P.underlying t = some (.slice e)) {z : Value} {bytes : Nat}
    (hinfo : (P.info? e).map (fun i => (i.zero, i.size, i.bytes)) = some (some z, sz, bytes)) (hzs : z.cells.size = sz) (hsz : 0 < sz) (hby : bytes ≤ 1000)
    (he : ∀ c, (enc c).length = sz) (h1 : ∀ c, ∀ u ∈ enc c, u.oneCell' = true)
    (lo : Nat) (A : Option Addr) (cap : Nat) (L M : List α) (B : Option Addr) (m c n q : Nat) (hn' : L.length = n) (hq : n + m = q)
    (hs : a.eval s = .slice A n cap) (hx : a.eval x = .slice B m c) (hm : M.length = m) (hsrc : ∀ ad, B = some ad → ∀ j u, (M.flatMap enc)[j]? = some u → w.cell? (ad.add j) = some u) (hnil : B = none → m = 0 ∧ c = 0)
    (hown : Own enc sz e lo w (.slice A n cap) L) (hlo : lo ≤ w.heap.size) (hn : q ≤ 100000000)
    (h : ∀ A' cap' w', Own enc sz e lo w' (.slice A' q cap') (L ++ M) → Below lo w w' → w.grownBy w' (Value.slice A n cap).ownBlock → wpList P ops Q rest (a.put o.dst (.slice A' q cap')) w') : wpList P ops Q (o :: rest) a w :=
  wpList_plain hgd fun _ hK => wp_app s x t e ho ht hinfo hzs hsz hby he h1 lo A cap L M B m c n q hn' hq hs hx hm hsrc hnil hown hlo hn fun A' cap' w' h2 h3 h4 => hK _ _ (h A' cap' w' h2 h3 h4)
end
/- the cells of a part of a slice that reads as a list -/
theorem rd_part {α : Type} {enc : α → List Value} {sz B : Nat} {w : World} {A : Option Addr} {L : List α} (he : ∀ c, (enc c).length = sz) (hr : Rd enc sz B w A L) (hL : L ≠ []) (i : Nat) :
    ∃ b o, A = some ⟨b, o, none⟩ ∧ b < B ∧ (∀ j u, ((L.take i).flatMap enc)[j]? = some u → w.cell? ⟨b, o + j, none⟩ = some u) ∧ ∀ j u, ((L.drop i).flatMap enc)[j]? = some u → w.cell? ⟨b, o + i * sz + j, none⟩ = some u := by
  obtain ⟨b, o, hA, hb, hc⟩ := hr.at_ hL
  refine ⟨b, o, hA, hb, rd_flat he (L.take i) o (fun k c hk => hc k c ?_), rd_flat he (L.drop i) (o + i * sz) (fun k c hk => ?_)⟩
  · rw [List.getElem?_take] at hk
    split at hk
    · exact hk
    · cases hk
  · have := hc (i + k) c (by rw [List.getElem?_drop] at hk; exact hk)
    rwa [Nat.add_mul, ← Nat.add_assoc] at this
end Go.Proofs.Ytafefnpmgpmjpaa
