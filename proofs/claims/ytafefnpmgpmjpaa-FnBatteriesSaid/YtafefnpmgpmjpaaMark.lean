/- The text of a mark, and slices of numbers: equal, marked, held. Marks are not negative and at most 2^40. -/
import Derived.Test.YtafefnpmgpmjpaaRows
import Derived.Test.YtafefnpmgpmjpaaBase
namespace Go.Proofs.Ytafefnpmgpmjpaa
open Go Go.RowKit

def digC (x : Nat) : ByteArray := strOfNums [48 + (x : Int) % 10]
def mtGo : Nat → Nat → ByteArray → ByteArray
  | 0, _, out => out
  | f + 1, x, out => if x = 0 then out else mtGo f (x / 10) (digC x ++ out)
def mText (k : Int) : ByteArray := if k ≤ 0 then ⟨#[109, 48]⟩ else ⟨#[109]⟩ ++ mtGo 20 k.toNat ⟨#[]⟩
theorem mtGo_zero : ∀ f out, mtGo f 0 out = out
  | 0, _ => rfl
  | _ + 1, _ => by simp [mtGo]
theorem mt_step {f n : Nat} {out r : ByteArray} (h : mtGo f n out = r) (hn : 0 < n) (hf : n < 10 ^ f) : ∃ g, f = g + 1 ∧ n / 10 < 10 ^ g ∧ mtGo g (n / 10) (digC n ++ out) = r := by
  rcases f with _ | g
  · simp at hf; omega
  · refine ⟨g, rfl, ?_, ?_⟩
    · rw [Nat.pow_succ] at hf; omega
    · rw [← h, mtGo, if_neg (by omega)]
theorem digC_size (n : Nat) : (digC n).size = 1 := strOfNums_size _

set_option maxRecDepth 100000 in
set_option maxHeartbeats 400000 in
theorem markText_any (k : Int) (w : World) (h0 : 0 ≤ k) (h1 : k ≤ 100000000) :
    Calls Try.prog 73 #[.int .i64 k] w fun e w' => e = .returned (.string (mText k)) ∧ Below w.heap.size w w' := by
  by_cases hk : k ≤ 0
  · go_enter Try.func73, Try.ntmps73
    go_wp2
    go_ret
    exact ⟨by simp [mText, hk], Below.refl _ _⟩
  · have kc : ∀ (W : World) (x : Int), (convert 34 9 (.slice (some ⟨W.heap.size, 0, none⟩) 1 1)).run Try.prog (W.alloc (.cells #[.int .u8 x] 5)) = .ok (.string (strOfNums [x])) (W.alloc (.cells #[.int .u8 x] 5)) :=
      fun W x => run_convert_bytes_arg _ 34 5 Try.underlying34 Try.underlying5 W.heap.size 0 1 1 [x] rfl (fun i hi => by
        obtain rfl : i = 0 := by omega
        simp) 9 Try.underlying9
    go_enter Try.func73, Try.ntmps73
    go_wp2_with fail
    go_loopw [0, 3] (fun x o wr => ∃ (n f : Nat) (out : ByteArray), x = .int .i64 n ∧ o = .string out ∧ n ≤ 100000000 ∧ out.size + f ≤ 20 ∧ Hid (n < 10 ^ f) ∧ Hid (mtGo f n out = mtGo 20 k.toNat ⟨#[]⟩) ∧ Below w.heap.size w wr) (fun x _ _ => (intOf x).toNat)
    case atStart => exact ⟨k.toNat, 20, _, by simp [Int.toNat_of_nonneg h0], rfl, by omega, by decide, hide (by omega), hide rfl, Below.refl _ _⟩
    case round =>
      obtain ⟨n, f, out, rfl, rfl, hn, hs, hf, hl, hb⟩ := hrel
      by_cases hz : 0 < n
      · obtain ⟨g, hfg, hf', hl'⟩ := mt_step hl.out hz hf.out
        have Hg := hide hfg; have Hf := hide hf'; have Hl := hide hl'
        clear hfg hf' hl'
        have hd : (strOfNums [48 + (n : Int) % 10]).size ≤ 1 := by rw [strOfNums_size]; simp
        have hos : out.size ≤ 20 := by omega
        go_wp2_with fail
        go_roundw
        case rel => exact ⟨n / 10, g, digC n ++ out, by go_num, rfl, by omega, by have := digC_size n; have := Hg.out; rw [ByteArray.size_append]; omega, Hf, Hl, hb.alloc (by have := hb.size; omega) _⟩
        case measure => simp [intOf]; omega
      · obtain rfl : n = 0 := by omega
        have hos : out.size ≤ 20 := by omega
        go_wp2_with fail
        go_ret
        exact ⟨ret_str (by have := hl.out; rw [mtGo_zero] at this; rw [mText, if_neg (by omega), ← this]), hb⟩

def encI (n : Int) : List Value := [.int .i64 n]
theorem encI_len (n : Int) : (encI n).length = 1 := rfl
theorem rd_int {B : Nat} {w : World} {A : Option Addr} {L : List Int} (h : Rd encI 1 B w A L) (hL : L ≠ []) : ∃ b o, A = some ⟨b, o, none⟩ ∧ b < B ∧ ∀ (k : Nat) (n : Int), L[k]? = some n → w.cell? ⟨b, o + k, none⟩ = some (.int .i64 n) := by
  obtain ⟨b, o, hA, hb, hc⟩ := h.at_ hL
  exact ⟨b, o, hA, hb, fun k n hk => by simpa using hc k n hk 0 _ rfl⟩
def mkI (k0 : Int) (n : Nat) : List Int := (List.range n).map fun i : Nat => k0 + (i : Int)
theorem mkI_len (k0 : Int) (n : Nat) : (mkI k0 n).length = n := by simp [mkI]
theorem mkI_succ (k0 : Int) (n : Nat) : mkI k0 (n + 1) = mkI k0 n ++ [k0 + (n : Int)] := by simp [mkI, List.range_succ]
theorem mkI_get {k0 : Int} {n k : Nat} (h : k < n) : (mkI k0 n)[k]? = some (k0 + (k : Int)) := by simp [mkI, h]
theorem markI_step {k0 : Int} {L : List Int} {k : Nat} (h : k < L.length) :
    ((mkI k0 k ++ L.drop k).flatMap encI).set k (.int .i64 (k0 + (k : Int))) = (mkI k0 (k + 1) ++ L.drop (k + 1)).flatMap encI := by
  rw [List.drop_eq_getElem_cons h, mkI_succ]
  simp only [List.flatMap_append, List.flatMap_cons, encI, List.append_assoc, List.cons_append, List.nil_append]
  exact set_mid _ _ _ _ _ (by rw [flat_length (enc := encI) (sz := 1) encI_len, mkI_len]; omega)
theorem markI_at {k0 : Int} {L : List Int} {k : Nat} (h : k < L.length) : ((mkI k0 k ++ L.drop k).flatMap encI)[k]? = some (.int .i64 L[k]) := by
  have := flat_get (enc := encI) (sz := 1) encI_len (mkI k0 k ++ L.drop k) k L[k] (by rw [List.getElem?_append_right (by rw [mkI_len]; omega), mkI_len]; simp [h]) 0 _ rfl
  simpa using this

end Go.Proofs.Ytafefnpmgpmjpaa
