/- The arguments of a law as its reader gives them, opened: a slice reads as a list, a struct as its fields. -/
import Derived.Test.YtkdnkhbcbcffeaaDoorStGripState
import Derived.Test.YtkdnkhbcbcffeaaDoorMark
import Derived.ProofKit
import Derived.OpenShut
import Derived.ShutString
import Derived.ChangeOld
import Derived.Below
import Derived.Deep.Slices
import Derived.Deep.Fields
namespace Go.Proofs.YtkdnkhbcbcffeaaDoor
open Go Go.RowKit Go.ChangeShapes Go.WideShapes Go.ChangeAt Go.Deep
open Go.ChangeMaps (open_string shut_string)
theorem own : ownKnob Tryd.prog.godebug = none := by kernel_rfl
theorem laidOut : laidOutB Tryd.prog = true := by kernel_rfl
section
variable {H : Type} {enc : TypeId × Value → H} {P : Program} {w : World} {base : Nat} {spare : Nat → Bool} {held : Bool}
theorem len_2 {α : Type} {l : List α} (h : l.length = 2) : ∃ a b, l = [a, b] := by
  match l, h with
  | [a, b], _ => exact ⟨a, b, rfl⟩
theorem len_3 {α : Type} {l : List α} (h : l.length = 3) : ∃ a b c, l = [a, b, c] := by
  match l, h with
  | [a, b, c], _ => exact ⟨a, b, c, rfl⟩
theorem len_4 {α : Type} {l : List α} (h : l.length = 4) : ∃ a b c d, l = [a, b, c, d] := by
  match l, h with
  | [a, b, c, d], _ => exact ⟨a, b, c, d, rfl⟩
theorem len_5 {α : Type} {l : List α} (h : l.length = 5) : ∃ a b c d e, l = [a, b, c, d, e] := by
  match l, h with
  | [a, b, c, d, e], _ => exact ⟨a, b, c, d, e, rfl⟩
/- a slice of things that each read as one of ours -/
theorem open_list {α : Type} {encα : α → List Value} {m : Nat} {Good : α → Prop} {t e : TypeId} {fuel : Nat} {A : Option Addr} {len cap : Nat} {x : DataW H × List MemPlace}
    (ht : P.underlying t = some (.slice e)) (hm : P.cellsOf e = m) (hm0 : 0 < m) (hal : ∀ c, (encα c).length = m)
    (el : ∀ (n : Nat) (cs : List Value) (y : DataW H × List MemPlace), DataW.trod enc P w base spare held n e cs = some y → ∃ c : α, cs = encα c ∧ Good c)
    (h : DataW.trod enc P w base spare held fuel t [.slice A len cap] = some x) :
    ∃ L : List α, len = L.length ∧ Rd encα m w.heap.size w A L ∧ (∀ c ∈ L, Good c) ∧ L.length ≤ maxLen := by
  rcases open_slice ht h with ⟨h0, _⟩ | ⟨a, l, c, mm, n, D, Pl, hcs, _, hl, hcm, hmm, _, hx⟩
  · simp only [List.cons.injEq, Value.slice.injEq, and_true] at h0
    obtain ⟨rfl, rfl, rfl⟩ := h0
    exact ⟨[], rfl, .inl rfl, (fun c hc => by cases hc), Nat.zero_le _⟩
  · simp only [List.cons.injEq, Value.slice.injEq, and_true] at hcs
    obtain ⟨rfl, rfl, rfl⟩ := hcs
    have hle : len ≤ mm := by rw [hmm]; split <;> omega
    have hall : ∀ i, i < len → ∃ c : α, Good c ∧ ∀ j v, (encα c)[j]? = some v → w.cell? (a.add (i * m + j)) = some v := by
      intro i hi
      obtain ⟨cs', hc, hy⟩ := hx i (by omega)
      obtain ⟨c, rfl, hg⟩ := el n cs' _ hy
      rw [hm] at hc
      obtain ⟨_, hlen, hat⟩ := World.cells?_some hc
      refine ⟨c, hg, fun j v hv => ?_⟩
      have hj : j < m := by rw [← hal c]; exact (List.getElem?_eq_some_iff.1 hv).1
      have hadd : (a.add (i * m)).add j = a.add (i * m + j) := by
        unfold Addr.add
        by_cases h1 : i * m = 0 <;> by_cases h2 : j = 0 <;> simp [h1, h2, Nat.add_assoc]
      rw [← hadd, hat j hj, hv]
    rcases Nat.eq_zero_or_pos len with rfl | hpos
    · exact ⟨[], rfl, .inl rfl, (fun c hc => by cases hc), Nat.zero_le _⟩
    have hin : Inhabited α := ⟨(hall 0 hpos).choose⟩
    obtain ⟨f, hf⟩ := choose_lt (α := α) hall
    refine ⟨(List.range len).map f, by simp, ?_, fun c hc => ?_, by simp only [List.length_map, List.length_range]; omega⟩
    · · have hc0 : ∃ v, (encα (f 0))[0]? = some v := ⟨_, List.getElem?_eq_getElem (by rw [hal]; exact hm0)⟩
        obtain ⟨v0, hv0⟩ := hc0
        have h00 := (hf 0 hpos).2 0 v0 hv0
        obtain ⟨b, off, spot⟩ := a
        have hspot : spot = none := by simpa [Addr.add] using World.cell?_spot h00
        subst hspot
        have hb : b < w.heap.size := by
          have := World.block_lt_of_cell? w _ h00
          simpa [Addr.add] using this
        refine .inr ⟨b, off, rfl, hb, fun k c hk j v hv => ?_⟩
        have hkl : k < len := by
          have := (List.getElem?_eq_some_iff.1 hk).1
          simpa using this
        simp only [List.getElem?_map, List.getElem?_range hkl, Option.map_some, Option.some.injEq] at hk
        subst hk
        have := (hf k hkl).2 j v hv
        rw [Addr.add_mid, ← Nat.add_assoc] at this
        exact this
    · simp only [List.mem_map, List.mem_range] at hc
      obtain ⟨i, hi, rfl⟩ := hc
      exact (hf i hi).1
/- the field number i of a struct all of whose fields have one cell -/
theorem open_field {fs : Array Field} {n : Nat} {cs : List Value} {xs : List (DataW H × List MemPlace)} (hone : oneCellFields P fs = true) (hl : xs.length = fs.size)
    (hf : ∀ (i : Nat) (f : Field), fs[i]? = some f → DataW.trod enc P w base spare held n f.type ((cs.drop f.offset).take (P.cellsOf f.type)) = xs[i]?)
    (i : Nat) (f : Field) (hi : fs[i]? = some f) (T : TypeId) (hT : f.type = T) (v : Value) (hv : cs[i]? = some v) : ∃ y, DataW.trod enc P w base spare held n T [v] = some y := by
  obtain ⟨ho, hk⟩ := hone_of hone i f hi
  have h := hf i f hi
  subst hT
  have hi' : i < xs.length := by rw [hl]; exact (Array.getElem?_eq_some_iff.1 hi).1
  have hc : i < cs.length := (List.getElem?_eq_some_iff.1 hv).1
  rw [ho, hk, List.drop_eq_getElem_cons hc, List.getElem?_eq_getElem hi'] at h
  have hv' : cs[i] = v := by
    rw [List.getElem?_eq_getElem hc] at hv
    exact Option.some.inj hv
  rw [hv'] at h
  exact ⟨_, h⟩
/- what a slice type's datum is -/
theorem trod_is_slice {t e : TypeId} {fuel : Nat} {v : Value} {x : DataW H × List MemPlace} (ht : P.underlying t = some (.slice e)) (h : DataW.trod enc P w base spare held fuel t [v] = some x) : ∃ A l c, v = .slice A l c := by
  rcases open_slice ht h with ⟨h0, _⟩ | ⟨a, l, c, mm, n, D, Pl, hcs, _⟩
  · simp only [List.cons.injEq, and_true] at h0
    exact ⟨_, _, _, h0⟩
  · simp only [List.cons.injEq, and_true] at hcs
    exact ⟨_, _, _, hcs⟩
/- a struct by value -/
theorem open_struct {α : Type} {encα : α → List Value} {Good : α → Prop} {r : Reach} {b0 : Nat} {t : TypeId} {fs : Array Field} {v : Value} {d : DataW H} {p : List MemPlace} (hs : P.underlying t = some (.struct fs))
    (el : ∀ (n : Nat) (cs : List Value) (y : DataW H × List MemPlace), DataW.trod enc P w base spare held n t cs = some y → ∃ c : α, cs = encα c ∧ Good c)
    (hv : Value.okWide P w r b0 t v) (h : DataW.Trod enc P w base spare held t v d p) : ∃ c : α, v = .agg (encα c).toArray ∧ Good c := by
  obtain ⟨cs, rfl, _⟩ := okWide_struct hs hv
  obtain ⟨n, hn⟩ := h
  obtain ⟨c, hc, hg⟩ := el n _ _ hn
  refine ⟨c, ?_, hg⟩
  rw [← hc]
  simp [Value.cells]
end
theorem GripState.el {H : Type} {enc : TypeId × Value → H} {w : World} {base : Nat} {spare : Nat → Bool} {held : Bool} (n : Nat) (cs : List Value) (y : DataW H × List MemPlace) (h : DataW.trod enc Tryd.prog w base spare held n 23 cs = some y) :
    ∃ c : GripState, cs = c.enc ∧ c.Ok ∧ c.Fits := by
  obtain ⟨xs, n', _, _, hlen, hxl, hf⟩ := DataW.trod_struct Tryd.underlying23 h
  replace hlen : cs.length = 4 := hlen.trans (by kernel_rfl)
  obtain ⟨v0, v1, v2, v3, rfl⟩ := len_4 hlen
  obtain ⟨y0, e0⟩ := open_field (by kernel_rfl) hxl hf 0 _ rfl 3 rfl v0 rfl
  obtain ⟨n0, q0, _, g0⟩ := DataW.trod_int Tryd.underlying3 e0
  simp only [List.cons.injEq, and_true] at q0
  subst q0
  obtain ⟨y1, e1⟩ := open_field (by kernel_rfl) hxl hf 1 _ rfl 3 rfl v1 rfl
  obtain ⟨n1, q1, _, g1⟩ := DataW.trod_int Tryd.underlying3 e1
  simp only [List.cons.injEq, and_true] at q1
  subst q1
  obtain ⟨y2, e2⟩ := open_field (by kernel_rfl) hxl hf 2 _ rfl 3 rfl v2 rfl
  obtain ⟨n2, q2, _, g2⟩ := DataW.trod_int Tryd.underlying3 e2
  simp only [List.cons.injEq, and_true] at q2
  subst q2
  obtain ⟨y3, e3⟩ := open_field (by kernel_rfl) hxl hf 3 _ rfl 3 rfl v3 rfl
  obtain ⟨n3, q3, _, g3⟩ := DataW.trod_int Tryd.underlying3 e3
  simp only [List.cons.injEq, and_true] at q3
  subst q3
  exact ⟨⟨n0, n1, n2, n3⟩, rfl, trivial, ⟨g0, g1, g2, g3⟩⟩
end Go.Proofs.YtkdnkhbcbcffeaaDoor
