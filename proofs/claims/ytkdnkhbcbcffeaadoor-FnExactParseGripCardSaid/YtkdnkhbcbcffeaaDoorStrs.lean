/- Slices of texts: equal, marked, held; rows of a call's own. Marks are not negative and at most 10^8. -/
import Derived.Test.YtkdnkhbcbcffeaaDoorMark
import Derived.Test.YtkdnkhbcbcffeaaDoorDel
namespace Go.Proofs.YtkdnkhbcbcffeaaDoor
open Go Go.RowKit
set_option linter.unusedVariables false
set_option linter.unusedSimpArgs false
def encS (s : ByteArray) : List Value := [.string s]
theorem encS_len (s : ByteArray) : (encS s).length = 1 := rfl
theorem encS_one (s : ByteArray) : ∀ u ∈ encS s, u.oneCell' = true := by intro u hu; simp [encS] at hu; subst hu; rfl
theorem infoS : (Tryd.prog.info? 9).map (fun i => (i.zero, i.size, i.bytes)) = some (some (.string ⟨#[]⟩), 1, 16) := by kernel_rfl
theorem rd_str {B : Nat} {w : World} {A : Option Addr} {L : List ByteArray} (h : Rd encS 1 B w A L) (hL : L ≠ []) : ∃ b o, A = some ⟨b, o, none⟩ ∧ b < B ∧ ∀ (k : Nat) (n : ByteArray), L[k]? = some n → w.cell? ⟨b, o + k, none⟩ = some (.string n) := by
  obtain ⟨b, o, hA, hb, hc⟩ := h.at_ hL
  exact ⟨b, o, hA, hb, fun k n hk => by simpa using hc k n hk 0 _ rfl⟩
def mkS (k0 : Int) (n : Nat) : List ByteArray := (List.range n).map fun i : Nat => mText (k0 + (i : Int))
theorem mkS_len (k0 : Int) (n : Nat) : (mkS k0 n).length = n := by simp [mkS]
theorem mkS_succ (k0 : Int) (n : Nat) : mkS k0 (n + 1) = mkS k0 n ++ [mText (k0 + (n : Int))] := by simp [mkS, List.range_succ]
theorem mkS_get {k0 : Int} {n k : Nat} (h : k < n) : (mkS k0 n)[k]? = some (mText (k0 + (k : Int))) := by simp [mkS, h]
theorem markS_step {k0 : Int} {L : List ByteArray} {k : Nat} (h : k < L.length) :
    ((mkS k0 k ++ L.drop k).flatMap encS).set k (.string (mText (k0 + (k : Int)))) = (mkS k0 (k + 1) ++ L.drop (k + 1)).flatMap encS := by
  rw [List.drop_eq_getElem_cons h, mkS_succ]
  simp only [List.flatMap_append, List.flatMap_cons, encS, List.append_assoc, List.cons_append, List.nil_append]
  exact set_mid _ _ _ _ _ (by rw [flat_length (enc := encS) (sz := 1) encS_len, mkS_len]; omega)
theorem markS_at {k0 : Int} {L : List ByteArray} {k : Nat} (h : k < L.length) : ((mkS k0 k ++ L.drop k).flatMap encS)[k]? = some (.string L[k]) := by
  have := flat_get (enc := encS) (sz := 1) encS_len (mkS k0 k ++ L.drop k) k L[k] (by rw [List.getElem?_append_right (by rw [mkS_len]; omega), mkS_len]; simp [h]) 0 _ rfl
  simpa using this
end Go.Proofs.YtkdnkhbcbcffeaaDoor
