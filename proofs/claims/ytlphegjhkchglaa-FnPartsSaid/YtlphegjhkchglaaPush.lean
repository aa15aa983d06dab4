/- One thing is appended to a row of the call's own, at a step of a region that draws its order. No condition. -/
import Derived.Test.YtlphegjhkchglaaBase
import Derived.Deep.RegionHeldLaw
namespace Go.Proofs.Ytlphegjhkchglaa
open Go Go.RowKit
theorem step_push {α : Type} {enc : α → List Value} {sz : Nat} {P : Program} {w : World} {ops : Array Oper} {o : Oper} {a : Act} {K : Act → World → Prop} {Q : Exit → Act → World → Prop} {E : Prop} (hgd : o.guard = none) (s x : Operand) (t e : TypeId)
    (ho : o.op = .call { callee := .builtin .append, args := #[s, x], argTypes := #[t, t] }) (ht : P.underlying t = some (.slice e)) {z : Value} {bytes : Nat}
    (hinfo : (P.info? e).map (fun i => (i.zero, i.size, i.bytes)) = some (some z, sz, bytes)) (hzs : z.cells.size = sz) (hsz : 0 < sz) (hby : bytes ≤ 1000)
    (he : ∀ c, (enc c).length = sz) (h1 : ∀ c, ∀ u ∈ enc c, u.oneCell' = true)
    (lo : Nat) (A : Option Addr) (cap : Nat) (L : List α) (c : α) (cs : Array Value) (hcs : cs.toList = enc c)
    (hs : a.eval s = .slice A L.length cap) (nb : Nat) (hx : a.eval x = .slice (some ⟨nb, 0, none⟩) 1 1) (hnb : w.heap.size = nb) (hown : Own enc sz e lo w (.slice A L.length cap) L) (hlo : lo ≤ w.heap.size) (hn : L.length ≤ 100000000)
    (h : ∀ A' cap' w', Own enc sz e lo w' (.slice A' (L.length + 1) cap') (L ++ [c]) → Below lo w w' → K (a.put o.dst (.slice A' (L.length + 1) cap')) w') :
    if Region.wanted o (yielded ops a.tmps) = true then Oper.wp P o a (w.alloc (.cells cs e)) K Q else E := by
  subst hnb
  obtain ⟨i, hi, hz, hsi, hbi⟩ := info_parts hinfo
  refine step_append_lies _ hgd s x t ho lo e i z sz bytes ht hi hz hsi hbi hzs hsz _ L.length (L.flatMap enc) hs (World.ownsRow.alloc hown _) ⟨w.heap.size, 0, none⟩ 1 1 (enc c) hx (by rw [he, Nat.one_mul]) ?_ (h1 c) (by omega) (by unfold maxLen; omega) ?_ (by simp; omega) _ rfl ?_
  · intro j u hu
    rw [Addr.add_mid, Nat.zero_add, cell_of_row _ _ j cs e (0, 0) (heap_alloc_new w _), ← Array.getElem?_toList, hcs, hu]
  · calc (L.length + 1) * bytes ≤ 100000001 * 1000 := Nat.mul_le_mul (by omega) hby
      _ ≤ 140737488355328 := by decide
  · intro g cap' w' ho' hg _ _
    have hb : Below lo w w' := ((Below.refl lo w).alloc hlo _).grown hg (by simp; omega) (fun k hk => by
      rcases hown.lt k hk with ⟨h3, _⟩
      exact h3)
    refine h (some ⟨g, 0, none⟩) cap' w' ?_ hb
    unfold Own
    rw [List.length_append, List.flatMap_append]
    simpa using ho'
end Go.Proofs.Ytlphegjhkchglaa
