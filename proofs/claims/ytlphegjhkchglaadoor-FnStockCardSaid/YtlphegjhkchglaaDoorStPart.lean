/- The struct Part: its size, its copy, its equality, its marks, one and in slices. Slices have at most 2^20 elements, marks are at most 10^8. -/
import Derived.Test.YtlphegjhkchglaaDoorMark
import Derived.Test.YtlphegjhkchglaaDoorWords
namespace Go.Proofs.YtlphegjhkchglaaDoor
open Go Go.RowKit
structure Part where
  name : ByteArray
  have_ : Int
  least : Int
  lead : Int
  price : Int
namespace Part
def enc (c : Part) : List Value := [.string c.name, .int .i64 c.have_, .int .i64 c.least, .int .i64 c.lead, .int .i64 c.price]
theorem enc_len (c : Part) : c.enc.length = 5 := rfl
def Ok (c : Part) : Prop := c.name.size ≤ maxLen
def Fits (c : Part) : Prop := (Lit.int .i64 c.have_).wf = true ∧ (Lit.int .i64 c.least).wf = true ∧ (Lit.int .i64 c.lead).wf = true ∧ (Lit.int .i64 c.price).wf = true
theorem cells {w : World} {b o k : Nat} {c : Part} (h : w.rangeAt b (o + k * 5) c.enc) : w.cell? ⟨b, o + k * 5, none⟩ = some (.string c.name) ∧ w.cell? ⟨b, o + k * 5 + 1, none⟩ = some (.int .i64 c.have_) ∧ w.cell? ⟨b, o + k * 5 + 2, none⟩ = some (.int .i64 c.least) ∧ w.cell? ⟨b, o + k * 5 + 3, none⟩ = some (.int .i64 c.lead) ∧ w.cell? ⟨b, o + k * 5 + 4, none⟩ = some (.int .i64 c.price) :=
  ⟨h 0 _ rfl, h 1 _ rfl, h 2 _ rfl, h 3 _ rfl, h 4 _ rfl⟩
theorem rd_at {B : Nat} {w : World} {A : Option Addr} {L : List Part} (h : Rd enc 5 B w A L) (hL : L ≠ []) : ∃ b o, A = some ⟨b, o, none⟩ ∧ b < B ∧ ∀ (k : Nat) (c : Part), L[k]? = some c → w.cell? ⟨b, o + k * 5, none⟩ = some (.string c.name) ∧ w.cell? ⟨b, o + k * 5 + 1, none⟩ = some (.int .i64 c.have_) ∧ w.cell? ⟨b, o + k * 5 + 2, none⟩ = some (.int .i64 c.least) ∧ w.cell? ⟨b, o + k * 5 + 3, none⟩ = some (.int .i64 c.lead) ∧ w.cell? ⟨b, o + k * 5 + 4, none⟩ = some (.int .i64 c.price) := by
  obtain ⟨b, o, hA, hb, hc⟩ := h.at_ hL
  exact ⟨b, o, hA, hb, fun k c hk => cells (hc k c hk)⟩
theorem box_after (w : World) (c : Part) (T : TypeId) : ∀ d : After (w.alloc (.cells #[.string c.name, .int .i64 c.have_, .int .i64 c.least, .int .i64 c.lead, .int .i64 c.price] T)), d.1.cell? ⟨w.heap.size, 0, none⟩ = some (.string c.name) ∧ d.1.cell? ⟨w.heap.size, 1, none⟩ = some (.int .i64 c.have_) ∧ d.1.cell? ⟨w.heap.size, 2, none⟩ = some (.int .i64 c.least) ∧ d.1.cell? ⟨w.heap.size, 3, none⟩ = some (.int .i64 c.lead) ∧ d.1.cell? ⟨w.heap.size, 4, none⟩ = some (.int .i64 c.price) :=
  fun d => ⟨after_cell (by simp) d, after_cell (by simp) d, after_cell (by simp) d, after_cell (by simp) d, after_cell (by simp) d⟩
def sz1 (c : Part) (left : Int) : Int := if left - c.name.size < 0 then -1 else left - c.name.size
def szL : List Part → Int → Int
  | [], l => l
  | c :: r, l => if c.sz1 l < 0 then -1 else szL r (c.sz1 l)
def szS (L : List Part) (left : Int) : Int := if left - L.length < 0 then -1 else szL L (left - L.length)
theorem sz1_any (c : Part) (left : Int) (w : World) (hs : c.name.size ≤ maxLen) (h0 : 0 ≤ left) (h1 : left ≤ 1048576) :
    Calls Tryd.prog 5 #[.agg #[.string c.name, .int .i64 c.have_, .int .i64 c.least, .int .i64 c.lead, .int .i64 c.price], .int .i64 left] w fun e w' => e = .returned (.int .i64 (c.sz1 left)) ∧ Below w.heap.size w w' := by
  unfold maxLen at hs
  by_cases h : left - c.name.size < 0
  · go_enter Tryd.func5, Tryd.ntmps5
    go_wp2
    go_ret
    exact ⟨ret_int (by rw [sz1, if_pos h]), (Below.refl _ _).alloc (Nat.le_refl _) _⟩
  · go_enter Tryd.func5, Tryd.ntmps5
    go_wp2
    go_ret
    exact ⟨ret_int (by rw [sz1, if_neg (by omega)]), (Below.refl _ _).alloc (Nat.le_refl _) _⟩
theorem sz1_le (c : Part) (l : Int) : c.sz1 l ≤ l ∨ c.sz1 l = -1 := by unfold sz1; split <;> omega
theorem sz1_fit {c : Part} {left : Int} (h : 0 ≤ c.sz1 left) : (c.name.size : Int) ≤ left ∧ c.sz1 left ≤ left := by
  unfold sz1 at *
  split at h <;> rename_i hn
  · omega
  · rw [if_neg hn]; omega
theorem szL_le : ∀ (L : List Part) (x : Int), szL L x ≤ x ∨ szL L x = -1
  | [], x => .inl (Int.le_refl _)
  | c :: r, x => by
    unfold szL
    split
    · exact .inr rfl
    · rename_i hn
      unfold sz1 at hn ⊢
      split at hn
      · omega
      · rename_i hx
        rw [if_neg hx]
        rcases szL_le r (x - c.name.size) with h | h
        · left; omega
        · exact .inr h
theorem szL_str : ∀ (L : List Part) (x : Int), 0 ≤ szL L x → ∀ c ∈ L, (c.name.size : Int) ≤ x
  | [], _, _, c, h => by cases h
  | d :: r, x, h0, c, h => by
    unfold szL at h0
    split at h0
    · omega
    · rename_i hn
      unfold sz1 at hn h0
      split at hn
      · omega
      · rename_i hx
        rw [if_neg hx] at h0
        rcases List.mem_cons.1 h with rfl | h
        · omega
        · have := szL_str r _ h0 c h
          omega
theorem szS_fit {L : List Part} {left : Int} (h : 0 ≤ szS L left) : (L.length : Int) ≤ left ∧ szS L left ≤ left ∧ ∀ c ∈ L, (c.name.size : Int) ≤ left := by
  unfold szS at *
  split at h
  · omega
  · rename_i hn
    rw [if_neg hn]
    refine ⟨by omega, ?_, fun c hc => ?_⟩
    · rcases szL_le L (left - L.length) with h1 | h1 <;> omega
    · have := szL_str L _ h c hc
      omega
set_option maxHeartbeats 400000 in
theorem to_any (c : Part) (w : World) :
    Calls Tryd.prog 7 #[.agg #[.string c.name, .int .i64 c.have_, .int .i64 c.least, .int .i64 c.lead, .int .i64 c.price]] w fun e w' => e = .returned (.agg #[.string c.name, .int .i64 c.have_, .int .i64 c.least, .int .i64 c.lead, .int .i64 c.price]) ∧ Below w.heap.size w w' := by
  go_enter Tryd.func7, Tryd.ntmps7
  go_wp2
  exact bodyPost_ret (v := .agg #[.string c.name, .int .i64 c.have_, .int .i64 c.least, .int .i64 c.lead, .int .i64 c.price]) (by simp [results, Tryd.results7, go_sem]) rfl ⟨rfl, (((Below.refl _ _).alloc (Nat.le_refl _) _).alloc (by simp) _).alloc (by simp; omega) _⟩
def mk1 (k : Int) : Part := ⟨mText (k), k + 1, k + 1 + 1, k + 1 + 1 + 1, k + 1 + 1 + 1 + 1⟩
def mkL (k0 : Int) (n : Nat) : List Part := (List.range n).map fun i : Nat => mk1 (k0 + 5 * (i : Int))
theorem mkL_len (k0 : Int) (n : Nat) : (mkL k0 n).length = n := by simp [mkL]
theorem mkL_succ (k0 : Int) (n : Nat) : mkL k0 (n + 1) = mkL k0 n ++ [mk1 (k0 + 5 * (n : Int))] := by simp [mkL, List.range_succ]
theorem mkL_get {k0 : Int} {n k : Nat} (h : k < n) : (mkL k0 n)[k]? = some (mk1 (k0 + 5 * (k : Int))) := by simp [mkL, h]
theorem mark_at {k0 : Int} {L : List Part} {k : Nat} (h : k < L.length) (j : Nat) (v : Value) (hv : (L[k].enc)[j]? = some v) : ((mkL k0 k ++ L.drop k).flatMap enc)[k * 5 + j]? = some v :=
  flat_get enc_len (mkL k0 k ++ L.drop k) k L[k] (by rw [List.getElem?_append_right (by rw [mkL_len]; omega), mkL_len]; simp [h]) j v hv
theorem mark_step {k0 : Int} {L : List Part} {k : Nat} (h : k < L.length) :
    ((((((mkL k0 k ++ L.drop k).flatMap enc).set (k * 5) (.string (mText (k0 + 5 * (k : Int))))).set (k * 5 + 1) (.int .i64 (k0 + 5 * (k : Int) + 1))).set (k * 5 + 2) (.int .i64 (k0 + 5 * (k : Int) + 1 + 1))).set (k * 5 + 3) (.int .i64 (k0 + 5 * (k : Int) + 1 + 1 + 1))).set (k * 5 + 4) (.int .i64 (k0 + 5 * (k : Int) + 1 + 1 + 1 + 1)) = (mkL k0 (k + 1) ++ L.drop (k + 1)).flatMap enc := by
  have hl : ((mkL k0 k).flatMap enc).length = k * 5 := by rw [flat_length enc_len, mkL_len]
  rw [List.drop_eq_getElem_cons h, mkL_succ]
  simp only [List.flatMap_append, List.flatMap_cons, List.flatMap_nil, List.append_nil, List.append_assoc]
  generalize (mkL k0 k).flatMap enc = X at hl ⊢
  generalize (L.drop (k + 1)).flatMap enc = Y
  rw [← hl]
  simp [enc, mk1]
end Part
end Go.Proofs.YtlphegjhkchglaaDoor
