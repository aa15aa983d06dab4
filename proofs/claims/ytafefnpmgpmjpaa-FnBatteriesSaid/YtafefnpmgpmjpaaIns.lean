/- Things are laid into the midst of a row: copy of rows of things of several cells, and what then lies there. No condition. -/
import Derived.Test.YtafefnpmgpmjpaaDel
import Derived.Lib.Overlaps
import Derived.Lib.AppendZerosOnto
import Derived.Laws.Externs
import Derived.Laws.IdiomCopy
import Derived.Deep.RegionLaw
import Derived.Deep.RegionHeldLaw
namespace Go.Proofs.Ytafefnpmgpmjpaa
open Go Go.RowKit
section
variable {P : Program}
theorem run_copy_rows (w : World) (dT sT ty elem : TypeId) (b o dLen dCap : Nat) (a : Addr) (sLen sCap sz : Nat) (cs : List Value)
    (hu : P.underlying dT = some (.slice elem)) (hs : (P.info? elem).map (·.size) = some sz) (hn : cs.length = Nat.min sLen dLen * sz)
    (hsrc : ∀ j v, cs[j]? = some v → w.cell? (a.add j) = some v) (ht : w.there b o cs.length) (h1 : ∀ v ∈ cs, v.oneCell' = true) :
    (Builtin.copy_ #[dT, sT] ty #[.slice (some ⟨b, o, none⟩) dLen dCap, .slice (some a) sLen sCap]).run P w = .ok (goInt (Nat.min sLen dLen : Nat)) (w.setCells b o cs) := by
  have hl := run_loadCells_list (P := P) w a cs hsrc
  have hst := run_storeCells_cells (P := P) b o cs 0 w (fun j hj => by simpa using (ht j hj).1) (fun j hj => by simpa using (ht j hj).2) h1
  cases hq : P.info? elem with
  | none => simp [hq] at hs
  | some i =>
    have hi : i.size = sz := by simpa [hq] using hs
    rw [hn] at hl
    simp [Builtin.copy_, run_underlying hu, Builtin.lenOf, Builtin.firstCells, sizeOf, typeInfo, hq, hi, hl, hst]
theorem wp_copy_run (w : World) {o : Oper} {a : Act} {K : Act → World → Prop} {Q : Exit → Act → World → Prop} (d s : Operand) (t t' : TypeId)
    (ho : o.op = .call { callee := .builtin .copy, args := #[d, s], argTypes := #[t, t'] }) (v u : Value) (hd : a.eval d = v) (hs : a.eval s = u) {v' : Value} {w' : World}
    (hr : (Builtin.copy_ #[t, t'] o.type #[v, u]).run P w = .ok v' w') (h : K (a.put o.dst v') w') : o.wp P a w K Q := by
  unfold Oper.wp execOp
  simp only [ho, resolve, invoke, builtin, Sem.run_bind, Sem.run_pure, Result.andThen_ok, List.map_toArray, List.map_cons, List.map_nil, hd, hs, hr]
  exact h
theorem wpList_copy_run (w : World) {ops : Array Oper} {rest : List Oper} {o : Oper} {a : Act} {Q : Exit → Act → World → Prop} (hgd : o.guard = none) (d s : Operand) (t t' : TypeId)
    (ho : o.op = .call { callee := .builtin .copy, args := #[d, s], argTypes := #[t, t'] }) (v u : Value) (hd : a.eval d = v) (hs : a.eval s = u) {v' : Value} {w' : World}
    (hr : (Builtin.copy_ #[t, t'] o.type #[v, u]).run P w = .ok v' w') (h : wpList P ops Q rest (a.put o.dst v') w') : wpList P ops Q (o :: rest) a w :=
  wpList_plain hgd fun _ hK => wp_copy_run w d s t t' ho v u hd hs hr (hK _ _ h)
theorem step_copy_run {ops : Array Oper} {o : Oper} {a : Act} {w : World} {K : Act → World → Prop} {Q : Exit → Act → World → Prop} {E : Prop}
    (hg : o.guard = none) (d x : Operand) (dT sT : TypeId) (hop : o.op = Op.call { callee := Callee.builtin Builtin.copy, args := #[d, x], argTypes := #[dT, sT] })
    (v u : Value) (hd : a.eval d = v) (hx : a.eval x = u) {v' : Value} {w' : World} (hr : (Builtin.copy_ #[dT, sT] o.type #[v, u]).run P w = .ok v' w') (h : K (a.put o.dst v') w') :
    if Region.wanted o (yielded ops a.tmps) = true then Oper.wp P o a w K Q else E := by
  have hw : Region.wanted o (yielded ops a.tmps) = true := by simp [Region.wanted, hg]
  rw [if_pos hw]
  exact wp_copy_run w d x dT sT hop v u hd hx hr h
end
/- what an insertion makes of a row -/
def insL {α : Type} (L : List α) (i : Nat) (c : α) : List α := L.take i ++ c :: L.drop i
theorem insL_len {α : Type} (L : List α) (i : Nat) (c : α) (h : i ≤ L.length) : (insL L i c).length = L.length + 1 := by
  simp [insL]; omega
theorem insL_end {α : Type} (L : List α) (c : α) : insL L L.length c = L ++ [c] := by simp [insL]
section
variable {α : Type} {enc : α → List Value} {sz : Nat} {T : TypeId} {lo : Nat} {w : World} {L : List α}
theorem flat_take (he : ∀ c, (enc c).length = sz) (L : List α) (i : Nat) (h : i ≤ L.length) : ((L.take i).flatMap enc).length = i * sz := by rw [flat_length he, List.length_take, Nat.min_eq_left h]
theorem flat_drop (he : ∀ c, (enc c).length = sz) (L : List α) (i : Nat) : ((L.drop i).flatMap enc).length = (L.length - i) * sz := by rw [flat_length he, List.length_drop]
theorem flat_ins (L : List α) (i : Nat) (c : α) : (insL L i c).flatMap enc = (L.take i).flatMap enc ++ (enc c ++ (L.drop i).flatMap enc) := by
  rw [insL, List.flatMap_append, List.flatMap_cons]
theorem flat_parts (L : List α) (i : Nat) : L.flatMap enc = (L.take i).flatMap enc ++ (L.drop i).flatMap enc := by
  rw [← List.flatMap_append, List.take_append_drop]
/- a row with room: one thing more, whatever lies there -/
theorem Own.room_ {g cap : Nat} (h : Own enc sz T lo w (.slice (some ⟨g, 0, none⟩) L.length cap) L) (hc : L.length + 1 ≤ cap) :
    ∃ J : List Value, J.length = sz ∧ w.ownsRow lo T sz (.slice (some ⟨g, 0, none⟩) (L.length + 1) cap) (L.length + 1) (L.flatMap enc ++ J) := by
  rcases h.2 with ⟨hv, _⟩ | ⟨g', c', cur, hv, hb, hh, _, hm, hs, ht⟩
  · cases hv
  · injection hv with a b c
    injection a with a
    injection a with a
    subst a c
    have hle : (L.length + 1) * sz ≤ cap * sz := Nat.mul_le_mul_right sz hc
    have hcl : cur.toList.length = cap * sz := by simpa using hs
    have hl : (cur.toList.take ((L.length + 1) * sz)).length = (L.length + 1) * sz := by rw [List.length_take, hcl]; omega
    have hsum : (L.length + 1) * sz = L.length * sz + sz := Nat.succ_mul _ _
    have h1 : (cur.toList.take ((L.length + 1) * sz)).take (L.length * sz) = L.flatMap enc := by rw [List.take_take, Nat.min_eq_left (by omega), ht]
    refine ⟨(cur.toList.take ((L.length + 1) * sz)).drop (L.length * sz), by rw [List.length_drop, hl]; omega, ?_⟩
    rw [← h1, List.take_append_drop]
    exact ⟨hl, .inr ⟨g, cap, cur, rfl, hb, hh, hc, hm, hs, rfl⟩⟩
theorem own_two {g cap n : Nat} {A X Y Q C : List Value} (hown : w.ownsRow lo T sz (.slice (some ⟨g, 0, none⟩) n cap) n (A ++ (X ++ Y))) (hX : X.length = C.length) (hY : Y.length = Q.length) :
    ((w.setCells g (A.length + C.length) Q).setCells g A.length C).ownsRow lo T sz (.slice (some ⟨g, 0, none⟩) n cap) n (A ++ (C ++ Q)) := by
  have h1 := own_setL Q (A.length + C.length) hown
  have h2 := own_setL C A.length h1
  have e1 : setL (A ++ (X ++ Y)) (A.length + C.length) Q = (A ++ X) ++ Q := by
    have := setL_over Q (A ++ X) Y [] hY
    rw [List.append_nil, List.append_nil, List.length_append, hX, List.append_assoc] at this
    rw [this, List.append_assoc]
  have e2 : setL (A ++ (X ++ Q)) A.length C = A ++ (C ++ Q) := setL_over C A X Q hX
  rw [e1, List.append_assoc, e2] at h2
  exact h2
theorem own_two' {g cap n : Nat} {A X Y Q C : List Value} (hown : w.ownsRow lo T sz (.slice (some ⟨g, 0, none⟩) n cap) n (A ++ (X ++ Y))) (hX : X.length = C.length) (hY : Y.length = Q.length) :
    ((w.setCells g A.length C).drew.setCells g (A.length + C.length) Q).ownsRow lo T sz (.slice (some ⟨g, 0, none⟩) n cap) n (A ++ (C ++ Q)) := by
  have h1 := World.ownsRow.drew (own_setL C A.length hown)
  have h2 := own_setL Q (A.length + C.length) h1
  rw [setL_over C A X Y hX] at h2
  have := setL_over Q (A ++ C) Y [] hY
  rw [List.append_nil, List.append_nil, List.length_append, List.append_assoc] at this
  rw [this, List.append_assoc] at h2
  exact h2
end
theorem split_at {β : Type} (J : List β) (k n : Nat) (h : J.length = k + n) : ∃ X Y, J = X ++ Y ∧ X.length = k ∧ Y.length = n :=
  ⟨J.take k, J.drop k, (List.take_append_drop k J).symm, by rw [List.length_take]; omega, by rw [List.length_drop]; omega⟩
end Go.Proofs.Ytafefnpmgpmjpaa
