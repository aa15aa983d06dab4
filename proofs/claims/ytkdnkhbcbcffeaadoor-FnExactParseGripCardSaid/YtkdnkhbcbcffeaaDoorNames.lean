/- What the row's list says of the names of states and zones: their cells. No condition but the list. -/
import Derived.Test.YtkdnkhbcbcffeaaDoorGtx
import Derived.Test.YtkdnkhbcbcffeaaDoorRows
import Derived.Lib.LaidTab
import Derived.Stop.LaidErr
import Derived.MakeChecks
namespace Go.Proofs.YtkdnkhbcbcffeaaDoor
open Go Go.RowKit
set_option linter.unusedVariables false
def strsData {H : Type} (zs : List (List UInt8)) : DataW H := .agg (zs.map fun z => .lit (.string z))
theorem cells_of_strs {H : Type} {enc : TypeId × Value → H} {P : Program} {w : World} {base : Nat} {sp : Nat → Bool} {held : Bool} {fuel : Nat} {t e : TypeId} {n : Nat} {cs : List Value} {zs : List (List UInt8)} {p : List MemPlace}
    (ht : P.underlying t = some (.array n e)) (he : P.underlying e = some .string) (hce : P.cellsOf e = 1) (hct : P.cellsOf t = n)
    (h : DataW.trod enc P w base sp held fuel t cs = some (strsData zs, p)) : cs = zs.map fun z => Value.string ⟨z.toArray⟩ := by
  cases fuel with
  | zero => simp [DataW.trod] at h
  | succ fuel =>
    simp only [DataW.trod, ht, hce, hct, Nat.mul_one] at h
    split at h
    · rename_i hl
      obtain ⟨xs, hm, hx⟩ := Option.map_eq_some_iff.1 h
      have hxs : xs.map (·.1) = zs.map fun z => (DataW.lit (.string z) : DataW H) := by
        have := congrArg Prod.fst hx
        simpa [strsData] using this
      have hxl : xs.length = n := by simpa using Lib.mapM_length hm
      have hzl : zs.length = n := by
        have := congrArg List.length hxs
        simp at this
        omega
      apply List.ext_getElem?
      intro i
      by_cases hi : i < n
      · obtain ⟨b, hb, hf⟩ := Lib.mapM_at hm i i (by simp [hi])
        obtain ⟨z, hc, rfl, _⟩ := DataW.trod_string he hf
        have h1 : cs[i]? = some (.string z) := by
          have := congrArg (·[0]?) hc
          simpa [List.getElem?_take, List.getElem?_drop] using this
        have h2 : (xs.map (·.1))[i]? = some (DataW.lit (.string z.data.toList) : DataW H) := by simp [hb]
        rw [hxs] at h2
        simp only [List.getElem?_map, Option.map_eq_some_iff, DataW.lit.injEq, Lit.string.injEq] at h2
        obtain ⟨z', hz', h3⟩ := h2
        have h4 : z = ⟨z'.toArray⟩ := by
          apply ByteArray.ext
          rw [h3]
        rw [h1, List.getElem?_map, hz', h4]
        rfl
      · rw [List.getElem?_eq_none (by omega), List.getElem?_eq_none (by simp; omega)]
    · cases h
theorem strs_of_head {P : Program} {W : World} {name : String} {zs : List (List UInt8)} {rest : List (String × DataW Unit)} {g : Nat} {t e : TypeId} {n : Nat}
    (hg : P.globalNamed name = some g) (hty : (P.globals[g]?).map (·.type) = some t) (ht : P.underlying t = some (.array n e)) (he : P.underlying e = some .string) (hce : P.cellsOf e = 1) (hct : P.cellsOf t = n)
    (h : laidMet P ((name, strsData zs) :: rest) W) : ∀ (k : Nat) (x : ByteArray), (zs.map fun z => (⟨z.toArray⟩ : ByteArray))[k]? = some x → W.cell? ⟨g, k, none⟩ = some (.string x) := by
  obtain ⟨ps, ⟨g', t', cs, fuel, p, q, hg', ht', hvar, hd, _, _⟩, _⟩ := h
  obtain rfl := Option.some.inj (hg.symm.trans hg')
  obtain rfl := Option.some.inj (hty.symm.trans ht')
  have hcs := cells_of_strs ht he hce hct hd
  intro k x hk
  have h1 := World.var?_cell hg hvar k
  rw [h1, ← Array.getElem?_toList, hcs]
  rw [List.getElem?_map] at hk ⊢
  cases hz : zs[k]? with
  | none => rw [hz] at hk; cases hk
  | some z => rw [hz] at hk; injection hk with hk; rw [← hk]; rfl
theorem gSt : Tryd.prog.globalNamed "loop.example/g00935/impl.gripNames" = some 0 := by kernel_rfl
theorem gStT : (Tryd.prog.globals[0]?).map (·.type) = some 42 := by kernel_rfl
theorem gZn : Tryd.prog.globalNamed "loop.example/g00935/impl.zoneNames" = some 1 := by kernel_rfl
theorem gZnT : (Tryd.prog.globals[1]?).map (·.type) = some 43 := by kernel_rfl
theorem c5S : Tryd.prog.cellsOf 42 = 5 := by kernel_rfl
theorem c4S : Tryd.prog.cellsOf 43 = 4 := by kernel_rfl
theorem c1S : Tryd.prog.cellsOf 9 = 1 := by kernel_rfl
def stZ : List (List UInt8) := [[111, 112, 101, 110], [99, 108, 111, 115, 105, 110, 103], [115, 104, 117, 116], [111, 112, 101, 110, 105, 110, 103], [108, 111, 99, 107, 101, 100]]
def znZ : List (List UInt8) := [[115, 116, 97, 116, 105, 111, 110], [101, 110, 116, 114, 121], [114, 111, 112, 101], [101, 120, 105, 116]]
theorem names_of {W : World} {rest : List (String × DataW Unit)} (h : laidMet Tryd.prog (("loop.example/g00935/impl.gripNames", strsData stZ) :: ("loop.example/g00935/impl.zoneNames", strsData znZ) :: rest) W) : NamesIs W :=
  ⟨strs_of_head gSt gStT Tryd.underlying42 Tryd.underlying9 c1S c5S h, strs_of_head gZn gZnT Tryd.underlying43 Tryd.underlying9 c1S c4S (laidMet.tail h)⟩
end Go.Proofs.YtkdnkhbcbcffeaaDoor
