/- Slices of numbers: their type's facts, rows of a call's own. No condition. -/
import Derived.Test.YtafefnpmgpmjpaaMark
import Derived.Test.YtafefnpmgpmjpaaDel
namespace Go.Proofs.Ytafefnpmgpmjpaa
open Go Go.RowKit
theorem infoI : (Try.prog.info? 3).map (fun i => (i.zero, i.size, i.bytes)) = some (some (.int .i64 0), 1, 8) := by kernel_rfl
theorem encI_one (n : Int) : ∀ u ∈ encI n, u.oneCell' = true := by intro u hu; simp [encI] at hu; subst hu; rfl
theorem own_int {T lo n cap g : Nat} {w : World} {M : List Int} {k : Nat} {c : Int} (h : Own encI 1 T lo w (.slice (some ⟨g, 0, none⟩) n cap) M) (hn : M.length = n) (hk : M[k]? = some c) : w.cell? ⟨g, k, none⟩ = some (.int .i64 c) := by
  subst hn
  have := own_cell h (flat_get encI_len M k c hk 0 _ rfl)
  rwa [Nat.mul_one, Nat.add_zero] at this
theorem own_int_set {T lo n cap g : Nat} {w : World} {M : List Int} {k : Nat} (h : Own encI 1 T lo w (.slice (some ⟨g, 0, none⟩) n cap) M) (hn : M.length = n) (hk : k < n) (c : Int) : Own encI 1 T lo (w.setCell ⟨g, k, none⟩ (.int .i64 c)) (.slice (some ⟨g, 0, none⟩) n cap) (M.set k c) := by
  have := Own.set_ encI_len h hn (k := k) (by omega) c
  rwa [Nat.mul_one] at this
theorem own_int_frozen {T lo n cap g : Nat} {w : World} {M : List Int} (h : Own encI 1 T lo w (.slice (some ⟨g, 0, none⟩) n cap) M) (hn : M.length = n) (j : Nat) : w.frozen? ⟨g, j, none⟩ = false := by
  subst hn; exact World.ownsRow.frozenAt h j
/- cells and what may be written, behind what makes memory alone -/
theorem range_below {w w' : World} {b o : Nat} {cs : List Value} (hb : Below w.heap.size w w') (h : w.rangeAt b o cs) : w'.rangeAt b o cs := fun j v hv => below_cell hb (h j v hv)
theorem there_below {w w' : World} {b o n : Nat} (hb : Below w.heap.size w w') (h : w.there b o n) : w'.there b o n := fun j hj => by
  obtain ⟨h1, h2⟩ := h j hj
  obtain ⟨u, hu⟩ := Option.isSome_iff_exists.1 h1
  exact ⟨by rw [below_cell hb hu]; rfl, below_frozen hb hu h2⟩
theorem there_new (w : World) (cs : Array Value) (t : TypeId) (n : Nat) (h : cs.size = n) : (w.alloc (.cells cs t)).there w.heap.size 0 n := fun j hj => by
  rw [Nat.zero_add, cell_of_row _ _ j cs t (0, 0) (heap_alloc_new w _), Array.getElem?_eq_getElem (by omega)]
  exact ⟨rfl, frozen_of_row _ _ j cs t (heap_alloc_new w _)⟩
theorem range_new (w : World) (cs : Array Value) (t : TypeId) (xs : List Value) (h : cs.toList = xs) : (w.alloc (.cells cs t)).rangeAt w.heap.size 0 xs := fun j v hv => by
  rw [Nat.zero_add, cell_of_row _ _ j cs t (0, 0) (heap_alloc_new w _), ← Array.getElem?_toList, h]; exact hv
end Go.Proofs.Ytafefnpmgpmjpaa
