/- The struct GripState: its size, its copy, its equality, its marks, one and in slices. Slices have at most 2^20 elements, marks are at most 10^8. -/
import Derived.Test.YtkdnkhbcbcffeaaDoorMark
import Derived.Test.YtkdnkhbcbcffeaaDoorWords
namespace Go.Proofs.YtkdnkhbcbcffeaaDoor
open Go Go.RowKit
structure GripState where
  state : Int
  zone : Int
  force : Int
  fails : Int
namespace GripState
def enc (c : GripState) : List Value := [.int .i64 c.state, .int .i64 c.zone, .int .i64 c.force, .int .i64 c.fails]
theorem enc_len (c : GripState) : c.enc.length = 4 := rfl
def Ok (_c : GripState) : Prop := True
def Fits (c : GripState) : Prop := (Lit.int .i64 c.state).wf = true ∧ (Lit.int .i64 c.zone).wf = true ∧ (Lit.int .i64 c.force).wf = true ∧ (Lit.int .i64 c.fails).wf = true
theorem cells {w : World} {b o k : Nat} {c : GripState} (h : w.rangeAt b (o + k * 4) c.enc) : w.cell? ⟨b, o + k * 4, none⟩ = some (.int .i64 c.state) ∧ w.cell? ⟨b, o + k * 4 + 1, none⟩ = some (.int .i64 c.zone) ∧ w.cell? ⟨b, o + k * 4 + 2, none⟩ = some (.int .i64 c.force) ∧ w.cell? ⟨b, o + k * 4 + 3, none⟩ = some (.int .i64 c.fails) :=
  ⟨h 0 _ rfl, h 1 _ rfl, h 2 _ rfl, h 3 _ rfl⟩
theorem rd_at {B : Nat} {w : World} {A : Option Addr} {L : List GripState} (h : Rd enc 4 B w A L) (hL : L ≠ []) : ∃ b o, A = some ⟨b, o, none⟩ ∧ b < B ∧ ∀ (k : Nat) (c : GripState), L[k]? = some c → w.cell? ⟨b, o + k * 4, none⟩ = some (.int .i64 c.state) ∧ w.cell? ⟨b, o + k * 4 + 1, none⟩ = some (.int .i64 c.zone) ∧ w.cell? ⟨b, o + k * 4 + 2, none⟩ = some (.int .i64 c.force) ∧ w.cell? ⟨b, o + k * 4 + 3, none⟩ = some (.int .i64 c.fails) := by
  obtain ⟨b, o, hA, hb, hc⟩ := h.at_ hL
  exact ⟨b, o, hA, hb, fun k c hk => cells (hc k c hk)⟩
theorem box_after (w : World) (c : GripState) (T : TypeId) : ∀ d : After (w.alloc (.cells #[.int .i64 c.state, .int .i64 c.zone, .int .i64 c.force, .int .i64 c.fails] T)), d.1.cell? ⟨w.heap.size, 0, none⟩ = some (.int .i64 c.state) ∧ d.1.cell? ⟨w.heap.size, 1, none⟩ = some (.int .i64 c.zone) ∧ d.1.cell? ⟨w.heap.size, 2, none⟩ = some (.int .i64 c.force) ∧ d.1.cell? ⟨w.heap.size, 3, none⟩ = some (.int .i64 c.fails) :=
  fun d => ⟨after_cell (by simp) d, after_cell (by simp) d, after_cell (by simp) d, after_cell (by simp) d⟩
def szS (L : List GripState) (left : Int) : Int := if left - L.length < 0 then -1 else left - L.length
theorem szS_fit {L : List GripState} {left : Int} (h : 0 ≤ szS L left) : (L.length : Int) ≤ left ∧ szS L left ≤ left := by
  unfold szS at *
  split at h <;> rename_i hn
  · omega
  · rw [if_neg hn]; omega
set_option maxHeartbeats 400000 in
theorem to_any (c : GripState) (w : World) :
    Calls Tryd.prog 6 #[.agg #[.int .i64 c.state, .int .i64 c.zone, .int .i64 c.force, .int .i64 c.fails]] w fun e w' => e = .returned (.agg #[.int .i64 c.state, .int .i64 c.zone, .int .i64 c.force, .int .i64 c.fails]) ∧ Below w.heap.size w w' := by
  go_enter Tryd.func6, Tryd.ntmps6
  go_wp2
  exact bodyPost_ret (v := .agg #[.int .i64 c.state, .int .i64 c.zone, .int .i64 c.force, .int .i64 c.fails]) (by simp [results, Tryd.results6, go_sem]) rfl ⟨rfl, (((Below.refl _ _).alloc (Nat.le_refl _) _).alloc (by simp) _).alloc (by simp; omega) _⟩
set_option maxHeartbeats 400000 in
theorem eq_same (c : GripState) (w : World) :
    Calls Tryd.prog 10 #[.agg #[.int .i64 c.state, .int .i64 c.zone, .int .i64 c.force, .int .i64 c.fails], .agg #[.int .i64 c.state, .int .i64 c.zone, .int .i64 c.force, .int .i64 c.fails]] w fun e w' => e = .returned (.bool true) ∧ Below w.heap.size w w' := by
  go_enter Tryd.func10, Tryd.ntmps10
  go_wp2
  go_ret
  exact ⟨rfl, ((Below.refl _ _).alloc (Nat.le_refl _) _).alloc (by simp) _⟩
def mk1 (k : Int) : GripState := ⟨k, k + 1, k + 1 + 1, k + 1 + 1 + 1⟩
def mkL (k0 : Int) (n : Nat) : List GripState := (List.range n).map fun i : Nat => mk1 (k0 + 4 * (i : Int))
theorem mkL_len (k0 : Int) (n : Nat) : (mkL k0 n).length = n := by simp [mkL]
theorem mkL_succ (k0 : Int) (n : Nat) : mkL k0 (n + 1) = mkL k0 n ++ [mk1 (k0 + 4 * (n : Int))] := by simp [mkL, List.range_succ]
theorem mkL_get {k0 : Int} {n k : Nat} (h : k < n) : (mkL k0 n)[k]? = some (mk1 (k0 + 4 * (k : Int))) := by simp [mkL, h]
theorem mark_at {k0 : Int} {L : List GripState} {k : Nat} (h : k < L.length) (j : Nat) (v : Value) (hv : (L[k].enc)[j]? = some v) : ((mkL k0 k ++ L.drop k).flatMap enc)[k * 4 + j]? = some v :=
  flat_get enc_len (mkL k0 k ++ L.drop k) k L[k] (by rw [List.getElem?_append_right (by rw [mkL_len]; omega), mkL_len]; simp [h]) j v hv
theorem mark_step {k0 : Int} {L : List GripState} {k : Nat} (h : k < L.length) :
    (((((mkL k0 k ++ L.drop k).flatMap enc).set (k * 4) (.int .i64 (k0 + 4 * (k : Int)))).set (k * 4 + 1) (.int .i64 (k0 + 4 * (k : Int) + 1))).set (k * 4 + 2) (.int .i64 (k0 + 4 * (k : Int) + 1 + 1))).set (k * 4 + 3) (.int .i64 (k0 + 4 * (k : Int) + 1 + 1 + 1)) = (mkL k0 (k + 1) ++ L.drop (k + 1)).flatMap enc := by
  have hl : ((mkL k0 k).flatMap enc).length = k * 4 := by rw [flat_length enc_len, mkL_len]
  rw [List.drop_eq_getElem_cons h, mkL_succ]
  simp only [List.flatMap_append, List.flatMap_cons, List.flatMap_nil, List.append_nil, List.append_assoc]
  generalize (mkL k0 k).flatMap enc = X at hl ⊢
  generalize (L.drop (k + 1)).flatMap enc = Y
  rw [← hl]
  simp [enc, mk1]
end GripState
end Go.Proofs.YtkdnkhbcbcffeaaDoor
