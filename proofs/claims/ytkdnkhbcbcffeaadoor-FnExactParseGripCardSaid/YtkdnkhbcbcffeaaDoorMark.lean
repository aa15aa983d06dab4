/- The text of a mark, and slices of numbers: equal, marked, held. Marks are not negative and at most 2^40. -/
import Derived.Test.YtkdnkhbcbcffeaaDoorRows
import Derived.Test.YtkdnkhbcbcffeaaDoorBase
namespace Go.Proofs.YtkdnkhbcbcffeaaDoor
open Go Go.RowKit

def digC (x : Nat) : ByteArray := strOfNums [48 + (x : Int) % 10]
def mtGo : Nat → Nat → ByteArray → ByteArray
  | 0, _, out => out
  | f + 1, x, out => if x = 0 then out else mtGo f (x / 10) (digC x ++ out)
def mText (k : Int) : ByteArray := if k ≤ 0 then ⟨#[109, 48]⟩ else ⟨#[109]⟩ ++ mtGo 20 k.toNat ⟨#[]⟩
theorem mtGo_zero : ∀ f out, mtGo f 0 out = out
  | 0, _ => rfl
  | _ + 1, _ => by simp [mtGo]
theorem mt_step {f n : Nat} {out r : ByteArray} (h : mtGo f n out = r) (hn : 0 < n) (hf : n < 10 ^ f) : ∃ g, f = g + 1 ∧ n / 10 < 10 ^ g ∧ mtGo g (n / 10) (digC n ++ out) = r := by
  rcases f with _ | g
  · simp at hf; omega
  · refine ⟨g, rfl, ?_, ?_⟩
    · rw [Nat.pow_succ] at hf; omega
    · rw [← h, mtGo, if_neg (by omega)]
theorem digC_size (n : Nat) : (digC n).size = 1 := strOfNums_size _


def encI (n : Int) : List Value := [.int .i64 n]
theorem encI_len (n : Int) : (encI n).length = 1 := rfl
theorem rd_int {B : Nat} {w : World} {A : Option Addr} {L : List Int} (h : Rd encI 1 B w A L) (hL : L ≠ []) : ∃ b o, A = some ⟨b, o, none⟩ ∧ b < B ∧ ∀ (k : Nat) (n : Int), L[k]? = some n → w.cell? ⟨b, o + k, none⟩ = some (.int .i64 n) := by
  obtain ⟨b, o, hA, hb, hc⟩ := h.at_ hL
  exact ⟨b, o, hA, hb, fun k n hk => by simpa using hc k n hk 0 _ rfl⟩
def mkI (k0 : Int) (n : Nat) : List Int := (List.range n).map fun i : Nat => k0 + (i : Int)
theorem mkI_len (k0 : Int) (n : Nat) : (mkI k0 n).length = n := by simp [mkI]
theorem mkI_succ (k0 : Int) (n : Nat) : mkI k0 (n + 1) = mkI k0 n ++ [k0 + (n : Int)] := by simp [mkI, List.range_succ]
theorem mkI_get {k0 : Int} {n k : Nat} (h : k < n) : (mkI k0 n)[k]? = some (k0 + (k : Int)) := by simp [mkI, h]
theorem markI_step {k0 : Int} {L : List Int} {k : Nat} (h : k < L.length) :
    ((mkI k0 k ++ L.drop k).flatMap encI).set k (.int .i64 (k0 + (k : Int))) = (mkI k0 (k + 1) ++ L.drop (k + 1)).flatMap encI := by
  rw [List.drop_eq_getElem_cons h, mkI_succ]
  simp only [List.flatMap_append, List.flatMap_cons, encI, List.append_assoc, List.cons_append, List.nil_append]
  exact set_mid _ _ _ _ _ (by rw [flat_length (enc := encI) (sz := 1) encI_len, mkI_len]; omega)
theorem markI_at {k0 : Int} {L : List Int} {k : Nat} (h : k < L.length) : ((mkI k0 k ++ L.drop k).flatMap encI)[k]? = some (.int .i64 L[k]) := by
  have := flat_get (enc := encI) (sz := 1) encI_len (mkI k0 k ++ L.drop k) k L[k] (by rw [List.getElem?_append_right (by rw [mkI_len]; omega), mkI_len]; simp [h]) 0 _ rfl
  simpa using this

end Go.Proofs.YtkdnkhbcbcffeaaDoor
