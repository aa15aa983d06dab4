/- The struct Battery: its size, its copy, its equality, its marks, one and in slices. Slices have at most 2^20 elements, marks are at most 10^8. -/
import Derived.Test.YtafefnpmgpmjpaaMark
import Derived.Test.YtafefnpmgpmjpaaWords
namespace Go.Proofs.Ytafefnpmgpmjpaa
open Go Go.RowKit
structure Battery where
  capacity : Int
  charge : Int
  most : Int
namespace Battery
def enc (c : Battery) : List Value := [.int .i64 c.capacity, .int .i64 c.charge, .int .i64 c.most]
theorem enc_len (c : Battery) : c.enc.length = 3 := rfl
def Ok (_c : Battery) : Prop := True
def Fits (c : Battery) : Prop := (Lit.int .i64 c.capacity).wf = true ∧ (Lit.int .i64 c.charge).wf = true ∧ (Lit.int .i64 c.most).wf = true
theorem cells {w : World} {b o k : Nat} {c : Battery} (h : w.rangeAt b (o + k * 3) c.enc) : w.cell? ⟨b, o + k * 3, none⟩ = some (.int .i64 c.capacity) ∧ w.cell? ⟨b, o + k * 3 + 1, none⟩ = some (.int .i64 c.charge) ∧ w.cell? ⟨b, o + k * 3 + 2, none⟩ = some (.int .i64 c.most) :=
  ⟨h 0 _ rfl, h 1 _ rfl, h 2 _ rfl⟩
theorem rd_at {B : Nat} {w : World} {A : Option Addr} {L : List Battery} (h : Rd enc 3 B w A L) (hL : L ≠ []) : ∃ b o, A = some ⟨b, o, none⟩ ∧ b < B ∧ ∀ (k : Nat) (c : Battery), L[k]? = some c → w.cell? ⟨b, o + k * 3, none⟩ = some (.int .i64 c.capacity) ∧ w.cell? ⟨b, o + k * 3 + 1, none⟩ = some (.int .i64 c.charge) ∧ w.cell? ⟨b, o + k * 3 + 2, none⟩ = some (.int .i64 c.most) := by
  obtain ⟨b, o, hA, hb, hc⟩ := h.at_ hL
  exact ⟨b, o, hA, hb, fun k c hk => cells (hc k c hk)⟩
theorem box_after (w : World) (c : Battery) (T : TypeId) : ∀ d : After (w.alloc (.cells #[.int .i64 c.capacity, .int .i64 c.charge, .int .i64 c.most] T)), d.1.cell? ⟨w.heap.size, 0, none⟩ = some (.int .i64 c.capacity) ∧ d.1.cell? ⟨w.heap.size, 1, none⟩ = some (.int .i64 c.charge) ∧ d.1.cell? ⟨w.heap.size, 2, none⟩ = some (.int .i64 c.most) :=
  fun d => ⟨after_cell (by simp) d, after_cell (by simp) d, after_cell (by simp) d⟩
def szS (L : List Battery) (left : Int) : Int := if left - L.length < 0 then -1 else left - L.length
theorem szS_fit {L : List Battery} {left : Int} (h : 0 ≤ szS L left) : (L.length : Int) ≤ left ∧ szS L left ≤ left := by
  unfold szS at *
  split at h <;> rename_i hn
  · omega
  · rw [if_neg hn]; omega
set_option maxHeartbeats 400000 in
theorem to_any (c : Battery) (w : World) :
    Calls Try.prog 11 #[.agg #[.int .i64 c.capacity, .int .i64 c.charge, .int .i64 c.most]] w fun e w' => e = .returned (.agg #[.int .i64 c.capacity, .int .i64 c.charge, .int .i64 c.most]) ∧ Below w.heap.size w w' := by
  go_enter Try.func11, Try.ntmps11
  go_wp2
  exact bodyPost_ret (v := .agg #[.int .i64 c.capacity, .int .i64 c.charge, .int .i64 c.most]) (by simp [results, Try.results11, go_sem]) rfl ⟨rfl, (((Below.refl _ _).alloc (Nat.le_refl _) _).alloc (by simp) _).alloc (by simp; omega) _⟩
def mk1 (k : Int) : Battery := ⟨k, k + 1, k + 1 + 1⟩
def mkL (k0 : Int) (n : Nat) : List Battery := (List.range n).map fun i : Nat => mk1 (k0 + 3 * (i : Int))
theorem mkL_len (k0 : Int) (n : Nat) : (mkL k0 n).length = n := by simp [mkL]
theorem mkL_succ (k0 : Int) (n : Nat) : mkL k0 (n + 1) = mkL k0 n ++ [mk1 (k0 + 3 * (n : Int))] := by simp [mkL, List.range_succ]
theorem mkL_get {k0 : Int} {n k : Nat} (h : k < n) : (mkL k0 n)[k]? = some (mk1 (k0 + 3 * (k : Int))) := by simp [mkL, h]
theorem mark_at {k0 : Int} {L : List Battery} {k : Nat} (h : k < L.length) (j : Nat) (v : Value) (hv : (L[k].enc)[j]? = some v) : ((mkL k0 k ++ L.drop k).flatMap enc)[k * 3 + j]? = some v :=
  flat_get enc_len (mkL k0 k ++ L.drop k) k L[k] (by rw [List.getElem?_append_right (by rw [mkL_len]; omega), mkL_len]; simp [h]) j v hv
theorem mark_step {k0 : Int} {L : List Battery} {k : Nat} (h : k < L.length) :
    ((((mkL k0 k ++ L.drop k).flatMap enc).set (k * 3) (.int .i64 (k0 + 3 * (k : Int)))).set (k * 3 + 1) (.int .i64 (k0 + 3 * (k : Int) + 1))).set (k * 3 + 2) (.int .i64 (k0 + 3 * (k : Int) + 1 + 1)) = (mkL k0 (k + 1) ++ L.drop (k + 1)).flatMap enc := by
  have hl : ((mkL k0 k).flatMap enc).length = k * 3 := by rw [flat_length enc_len, mkL_len]
  rw [List.drop_eq_getElem_cons h, mkL_succ]
  simp only [List.flatMap_append, List.flatMap_cons, List.flatMap_nil, List.append_nil, List.append_assoc]
  generalize (mkL k0 k).flatMap enc = X at hl ⊢
  generalize (L.drop (k + 1)).flatMap enc = Y
  rw [← hl]
  simp [enc, mk1]
end Battery
end Go.Proofs.Ytafefnpmgpmjpaa
