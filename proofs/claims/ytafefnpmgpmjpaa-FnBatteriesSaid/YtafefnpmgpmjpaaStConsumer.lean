/- The struct Consumer: its size, its copy, its equality, its marks, one and in slices. Slices have at most 2^20 elements, marks are at most 10^8. -/
import Derived.Test.YtafefnpmgpmjpaaMark
import Derived.Test.YtafefnpmgpmjpaaWords
namespace Go.Proofs.Ytafefnpmgpmjpaa
open Go Go.RowKit
structure Consumer where
  name : ByteArray
  watts : Int
  rank : Int
namespace Consumer
def enc (c : Consumer) : List Value := [.string c.name, .int .i64 c.watts, .int .i64 c.rank]
theorem enc_len (c : Consumer) : c.enc.length = 3 := rfl
def Ok (c : Consumer) : Prop := c.name.size ≤ maxLen
def Fits (c : Consumer) : Prop := (Lit.int .i64 c.watts).wf = true ∧ (Lit.int .i64 c.rank).wf = true
theorem cells {w : World} {b o k : Nat} {c : Consumer} (h : w.rangeAt b (o + k * 3) c.enc) : w.cell? ⟨b, o + k * 3, none⟩ = some (.string c.name) ∧ w.cell? ⟨b, o + k * 3 + 1, none⟩ = some (.int .i64 c.watts) ∧ w.cell? ⟨b, o + k * 3 + 2, none⟩ = some (.int .i64 c.rank) :=
  ⟨h 0 _ rfl, h 1 _ rfl, h 2 _ rfl⟩
theorem rd_at {B : Nat} {w : World} {A : Option Addr} {L : List Consumer} (h : Rd enc 3 B w A L) (hL : L ≠ []) : ∃ b o, A = some ⟨b, o, none⟩ ∧ b < B ∧ ∀ (k : Nat) (c : Consumer), L[k]? = some c → w.cell? ⟨b, o + k * 3, none⟩ = some (.string c.name) ∧ w.cell? ⟨b, o + k * 3 + 1, none⟩ = some (.int .i64 c.watts) ∧ w.cell? ⟨b, o + k * 3 + 2, none⟩ = some (.int .i64 c.rank) := by
  obtain ⟨b, o, hA, hb, hc⟩ := h.at_ hL
  exact ⟨b, o, hA, hb, fun k c hk => cells (hc k c hk)⟩
theorem box_after (w : World) (c : Consumer) (T : TypeId) : ∀ d : After (w.alloc (.cells #[.string c.name, .int .i64 c.watts, .int .i64 c.rank] T)), d.1.cell? ⟨w.heap.size, 0, none⟩ = some (.string c.name) ∧ d.1.cell? ⟨w.heap.size, 1, none⟩ = some (.int .i64 c.watts) ∧ d.1.cell? ⟨w.heap.size, 2, none⟩ = some (.int .i64 c.rank) :=
  fun d => ⟨after_cell (by simp) d, after_cell (by simp) d, after_cell (by simp) d⟩
def sz1 (c : Consumer) (left : Int) : Int := if left - c.name.size < 0 then -1 else left - c.name.size
def szL : List Consumer → Int → Int
  | [], l => l
  | c :: r, l => if c.sz1 l < 0 then -1 else szL r (c.sz1 l)
def szS (L : List Consumer) (left : Int) : Int := if left - L.length < 0 then -1 else szL L (left - L.length)
theorem sz1_any (c : Consumer) (left : Int) (w : World) (hs : c.name.size ≤ maxLen) (h0 : 0 ≤ left) (h1 : left ≤ 1048576) :
    Calls Try.prog 43 #[.agg #[.string c.name, .int .i64 c.watts, .int .i64 c.rank], .int .i64 left] w fun e w' => e = .returned (.int .i64 (c.sz1 left)) ∧ Below w.heap.size w w' := by
  unfold maxLen at hs
  by_cases h : left - c.name.size < 0
  · go_enter Try.func43, Try.ntmps43
    go_wp2
    go_ret
    exact ⟨ret_int (by rw [sz1, if_pos h]), (Below.refl _ _).alloc (Nat.le_refl _) _⟩
  · go_enter Try.func43, Try.ntmps43
    go_wp2
    go_ret
    exact ⟨ret_int (by rw [sz1, if_neg (by omega)]), (Below.refl _ _).alloc (Nat.le_refl _) _⟩
theorem sz1_le (c : Consumer) (l : Int) : c.sz1 l ≤ l ∨ c.sz1 l = -1 := by unfold sz1; split <;> omega
theorem szL_step {L : List Consumer} {k : Nat} (h : k < L.length) (x : Int) : szL (L.drop k) x = if L[k].sz1 x < 0 then -1 else szL (L.drop (k + 1)) (L[k].sz1 x) := by
  rw [List.drop_eq_getElem_cons h, szL]
set_option maxHeartbeats 400000 in
theorem szS_any (L : List Consumer) (A : Option Addr) (cap : Nat) (left : Int) (w : World) (hr : Rd enc 3 w.heap.size w A L) (hw : ∀ c ∈ L, c.Ok) (hl : L.length ≤ maxLen) (h0 : 0 ≤ left) (h1 : left ≤ 1048576) :
    Calls Try.prog 8 #[.slice A L.length cap, .int .i64 left] w fun e w' => e = .returned (.int .i64 (szS L left)) ∧ Below w.heap.size w w' := by
  unfold maxLen at hl
  by_cases hn : left - L.length < 0
  · go_enter Try.func8, Try.ntmps8
    go_wp2
    go_ret
    exact ⟨ret_int (by rw [szS, if_pos hn]), Below.refl _ _⟩
  · by_cases hL : L = []
    · subst hL
      go_enter Try.func8, Try.ntmps8
      go_wp2
      go_loop [5, 1] (fun i x => i = .int .i64 0 ∧ x = .int .i64 left) (fun _ _ => 0)
      case atStart => exact ⟨rfl, by simp⟩
      case round =>
        obtain ⟨rfl, rfl⟩ := hrel
        go_wp2
        go_ret
        exact ⟨ret_int (by simp [szS, szL]; omega), Below.refl _ _⟩
    · obtain ⟨b, o, rfl, hb, hc⟩ := rd_at hr hL
      clear hr
      go_enter Try.func8, Try.ntmps8
      go_wp2_with fail
      go_loopw [5, 1] (fun i l wr => ∃ (k : Nat) (x : Int), k ≤ L.length ∧ i = .int .i64 k ∧ l = .int .i64 x ∧ 0 ≤ x ∧ x ≤ 1048576 ∧ Hid (szL (L.drop k) x = szL L (left - L.length)) ∧ Below w.heap.size w wr) (fun i _ _ => L.length - (intOf i).toNat)
      case atStart => exact ⟨0, _, Nat.zero_le _, rfl, rfl, by omega, by omega, hide rfl, Below.refl _ _⟩
      case round =>
        obtain ⟨k, x, hk, rfl, rfl, hx0, hx1, hq, hbel⟩ := hrel
        by_cases hlt : k < L.length
        · obtain ⟨c0, c1, c2⟩ := hc k _ (List.getElem?_eq_getElem hlt)
          have hok := hw L[k] (List.getElem_mem hlt)
          have HS := hide (szL_step hlt x)
          generalize L[k] = c at *
          replace c0 := below_cell hbel c0
          replace c1 := below_cell hbel c1
          replace c2 := below_cell hbel c2
          have hok' : c.name.size ≤ maxLen := hok
          clear hok
          rcases sz1_le c x with hle | hle
          · by_cases hneg : c.sz1 x < 0
            · go_wp2_with (go_at_call 43; refine (sz1_any c x _ hok' hx0 hx1).mono ?_; rintro e w1 ⟨rfl, hb1⟩)
              go_ret
              exact ⟨ret_int (by rw [szS, if_neg (by omega), ← hq.out, HS.out, if_pos hneg]), below_step hbel hb1 (Nat.le_refl _)⟩
            · go_wp2_with (go_at_call 43; refine (sz1_any c x _ hok' hx0 hx1).mono ?_; rintro e w1 ⟨rfl, hb1⟩)
              go_roundw
              case rel => exact ⟨k + 1, _, by omega, by go_num, rfl, by omega, by omega, hide (by rw [← hq.out, HS.out, if_neg (by omega)]), below_step hbel hb1 (Nat.le_refl _)⟩
              case measure => simp [intOf]; omega
          · have hneg : c.sz1 x < 0 := by omega
            have HL := hide hle; clear hle
            go_wp2_with (go_at_call 43; refine (sz1_any c x _ hok' hx0 hx1).mono ?_; rintro e w1 ⟨rfl, hb1⟩)
            go_ret
            exact ⟨ret_int (by rw [szS, if_neg (by omega), ← hq.out, HS.out, if_pos hneg]), below_step hbel hb1 (Nat.le_refl _)⟩
        · go_wp2_with fail
          go_ret
          exact ⟨ret_int (by rw [szS, if_neg (by omega), ← hq.out, List.drop_eq_nil_of_le (by omega), szL]), hbel⟩
theorem sz1_fit {c : Consumer} {left : Int} (h : 0 ≤ c.sz1 left) : (c.name.size : Int) ≤ left ∧ c.sz1 left ≤ left := by
  unfold sz1 at *
  split at h <;> rename_i hn
  · omega
  · rw [if_neg hn]; omega
theorem szL_le : ∀ (L : List Consumer) (x : Int), szL L x ≤ x ∨ szL L x = -1
  | [], x => .inl (Int.le_refl _)
  | c :: r, x => by
    unfold szL
    split
    · exact .inr rfl
    · rename_i hn
      unfold sz1 at hn ⊢
      split at hn
      · omega
      · rename_i hx
        rw [if_neg hx]
        rcases szL_le r (x - c.name.size) with h | h
        · left; omega
        · exact .inr h
theorem szL_str : ∀ (L : List Consumer) (x : Int), 0 ≤ szL L x → ∀ c ∈ L, (c.name.size : Int) ≤ x
  | [], _, _, c, h => by cases h
  | d :: r, x, h0, c, h => by
    unfold szL at h0
    split at h0
    · omega
    · rename_i hn
      unfold sz1 at hn h0
      split at hn
      · omega
      · rename_i hx
        rw [if_neg hx] at h0
        rcases List.mem_cons.1 h with rfl | h
        · omega
        · have := szL_str r _ h0 c h
          omega
theorem szS_fit {L : List Consumer} {left : Int} (h : 0 ≤ szS L left) : (L.length : Int) ≤ left ∧ szS L left ≤ left ∧ ∀ c ∈ L, (c.name.size : Int) ≤ left := by
  unfold szS at *
  split at h
  · omega
  · rename_i hn
    rw [if_neg hn]
    refine ⟨by omega, ?_, fun c hc => ?_⟩
    · rcases szL_le L (left - L.length) with h1 | h1 <;> omega
    · have := szL_str L _ h c hc
      omega
set_option maxHeartbeats 400000 in
theorem to_any (c : Consumer) (w : World) :
    Calls Try.prog 49 #[.agg #[.string c.name, .int .i64 c.watts, .int .i64 c.rank]] w fun e w' => e = .returned (.agg #[.string c.name, .int .i64 c.watts, .int .i64 c.rank]) ∧ Below w.heap.size w w' := by
  go_enter Try.func49, Try.ntmps49
  go_wp2
  exact bodyPost_ret (v := .agg #[.string c.name, .int .i64 c.watts, .int .i64 c.rank]) (by simp [results, Try.results49, go_sem]) rfl ⟨rfl, (((Below.refl _ _).alloc (Nat.le_refl _) _).alloc (by simp) _).alloc (by simp; omega) _⟩
theorem info : (Try.prog.info? 65).map (fun i => (i.zero, i.size, i.bytes)) = some (some (.agg #[.string ⟨#[]⟩, .int .i64 0, .int .i64 0]), 3, 32) := by kernel_rfl
set_option maxRecDepth 100000 in
set_option maxHeartbeats 800000 in
theorem toS_any (L : List Consumer) (A : Option Addr) (cap : Nat) (w : World) (hn : L.length ≤ 1048576) (hr : Rd enc 3 w.heap.size w A L) :
    Calls Try.prog 10 #[.slice A L.length cap] w fun e w' => e = .returned (.slice (some ⟨w.heap.size, 0, none⟩) L.length L.length) ∧ Own enc 3 65 w.heap.size w' (.slice (some ⟨w.heap.size, 0, none⟩) L.length L.length) L ∧ Below w.heap.size w w' := by
  obtain ⟨i0, hi, hz0, hz1, hz2⟩ := info_parts info
  have hmk : ∀ W : World, (Instr.makeSlice 28 (.int .i64 (L.length : Int)) (.int .i64 (L.length : Int))).run Try.prog W = .ok (.slice (some ⟨W.heap.size, 0, none⟩) L.length L.length) (W.alloc (.cells (madeCells #[.string ⟨#[]⟩, .int .i64 0, .int .i64 0] (L.length * 3)) 65)) := by
    intro W
    have := run_make_rowN (P := Try.prog) 28 65 i0 _ Try.underlying28 hi hz0 .i64 .i64 L.length L.length (Nat.le_refl _) (by rw [hz2]; omega) (by omega) W
    rw [hz1] at this
    exact this
  have fill0 : Fill (w.alloc (.cells (madeCells #[.string ⟨#[]⟩, .int .i64 0, .int .i64 0] (L.length * 3)) 65)) w.heap.size 65 (L.length * 3) [] := Fill.new _ _ _ (size_madeCells _ _)
  by_cases hL : L = []
  · subst hL
    simp only [List.length_nil, Int.natCast_zero, Nat.zero_mul] at hmk fill0
    go_enter Try.func10, Try.ntmps10
    go_wp2_with fail
    go_loopw [4] (fun i wr => i = .int .i64 0 ∧ Fill wr w.heap.size 65 0 [] ∧ Below w.heap.size w wr) (fun _ _ => 0)
    case atStart => exact ⟨rfl, by simpa using fill0, (Below.refl _ _).alloc (Nat.le_refl _) _⟩
    case round =>
      obtain ⟨rfl, hf, hb⟩ := hrel
      go_wp2_with fail
      go_ret
      exact ⟨rfl, Fill.own (sz := 3) (n := 0) (by simpa using hf) rfl (Nat.le_refl _) (Nat.zero_le _), hb⟩
  · obtain ⟨b, o, rfl, hb, hc⟩ := rd_at hr hL
    clear hr
    go_enter Try.func10, Try.ntmps10
    go_wp2_with fail
    go_loopw [4] (fun i wr => ∃ k : Nat, k ≤ L.length ∧ i = .int .i64 k ∧ Fill wr w.heap.size 65 (L.length * 3) ((L.take k).flatMap enc) ∧ Below w.heap.size w wr) (fun i _ => L.length - (intOf i).toNat)
    case atStart => exact ⟨0, Nat.zero_le _, rfl, fill0, (Below.refl _ _).alloc (Nat.le_refl _) _⟩
    case round =>
      obtain ⟨k, hk, rfl, hf, hbel⟩ := hrel
      by_cases hlt : k < L.length
      · obtain ⟨c0, c1, c2⟩ := hc k _ (List.getElem?_eq_getElem hlt)
        have HT := hide (take_snocL L k hlt)
        have HF := hide (show ((L.take k).flatMap enc).length = k * 3 by rw [flat_length enc_len, List.length_take, Nat.min_eq_left hk])
        generalize L[k] = c at *
        replace c0 := below_cell hbel c0
        replace c1 := below_cell hbel c1
        replace c2 := below_cell hbel c2
        go_wp2_with (first | (go_at_call 49; refine (to_any c _).mono ?_; rintro e w1 ⟨rfl, hb1⟩; have hf1 := hf.below hb1) | (with_reducible show wpList _ _ _ (⟨none, _, _, _, _, _⟩ :: _) _ _; refine wpList_store_mid rfl 65 (.tmp 21) (.tmp 20) rfl w.heap.size (k * 3) #[.string c.name, .int .i64 c.watts, .int .i64 c.rank] rfl rfl (hf1.there_ (by simp; omega)) (by kernel_rfl) (by simp [Value.oneCell']) ?_))
        go_roundw
        case rel =>
          refine ⟨k + 1, by omega, by go_num, ?_, below_setCells _ (Nat.le_refl _) _ _ _ (below_step hbel hb1 (Nat.le_refl _))⟩
          have := Fill.store [.string c.name, .int .i64 c.watts, .int .i64 c.rank] hf1 (by rw [HF.out]; simp; omega)
          rw [HF.out] at this
          rw [HT.out, List.flatMap_append]
          simpa [enc] using this
        case measure => simp [intOf]; omega
      · obtain rfl : k = L.length := by omega
        go_wp2_with fail
        go_ret
        rw [List.take_length] at hf
        exact ⟨rfl, Fill.own hf (flat_length enc_len L) (Nat.le_refl _) (by unfold maxLen; omega), hbel⟩
set_option maxHeartbeats 400000 in
theorem eq_same (c : Consumer) (w : World) :
    Calls Try.prog 53 #[.agg #[.string c.name, .int .i64 c.watts, .int .i64 c.rank], .agg #[.string c.name, .int .i64 c.watts, .int .i64 c.rank]] w fun e w' => e = .returned (.bool true) ∧ Below w.heap.size w w' := by
  go_enter Try.func53, Try.ntmps53
  go_wp2
  go_ret
  exact ⟨rfl, ((Below.refl _ _).alloc (Nat.le_refl _) _).alloc (by simp) _⟩
set_option maxHeartbeats 400000 in
theorem eqS_same (L : List Consumer) (A B : Option Addr) (ca cb : Nat) (w : World) (hn : L.length ≤ 1048576) (ha : Rd enc 3 w.heap.size w A L) (hb : Rd enc 3 w.heap.size w B L) :
    Calls Try.prog 13 #[.slice A L.length ca, .slice B L.length cb] w fun e w' => e = .returned (.bool true) ∧ Below w.heap.size w w' := by
  by_cases hL : L = []
  · subst hL
    go_enter Try.func13, Try.ntmps13
    go_wp2
    go_loop [5] (fun i => i = .int .i64 0) (fun _ => 0)
    case atStart => rfl
    case round =>
      obtain rfl := hrel
      go_wp2
      go_ret
      exact ⟨rfl, Below.refl _ _⟩
  · obtain ⟨b1, o1, rfl, _, hc1⟩ := rd_at ha hL
    obtain ⟨b2, o2, rfl, _, hc2⟩ := rd_at hb hL
    clear ha hb
    go_enter Try.func13, Try.ntmps13
    go_wp2_with fail
    go_loopw [5] (fun i wr => ∃ k : Nat, k ≤ L.length ∧ i = .int .i64 k ∧ Below w.heap.size w wr) (fun i _ => L.length - (intOf i).toNat)
    case atStart => exact ⟨0, Nat.zero_le _, rfl, Below.refl _ _⟩
    case round =>
      obtain ⟨k, hk, rfl, hbw⟩ := hrel
      by_cases hlt : k < L.length
      · obtain ⟨c0, c1, c2⟩ := hc1 k _ (List.getElem?_eq_getElem hlt)
        obtain ⟨d0, d1, d2⟩ := hc2 k _ (List.getElem?_eq_getElem hlt)
        have hki : (k : Int) < (L.length : Int) := by omega
        generalize L[k] = c at *
        replace c0 := after_cell (below_cell hbw c0)
        replace d0 := after_cell (below_cell hbw d0)
        replace c1 := after_cell (below_cell hbw c1)
        replace d1 := after_cell (below_cell hbw d1)
        replace c2 := after_cell (below_cell hbw c2)
        replace d2 := after_cell (below_cell hbw d2)
        go_wp2_with fail
        refine wp_region_after (by kernel_rfl) (by kernel_rfl) ?_
        repeat (first | go_big_quiet_step ((go_at_call 53; exact Calls.after (eq_same c _))) | quiet_step ((go_at_call 53; exact Calls.after (eq_same c _))))
        refine wpQuiet_nil ?_
        rintro _ ⟨⟨w1, hb1⟩, rfl⟩
        go_wp2_with fail
        go_roundw
        case rel => exact ⟨k + 1, by omega, by go_num, below_step hbw hb1 (Nat.le_refl _)⟩
        case measure => simp [intOf]; omega
      · go_wp2_with fail
        go_ret
        exact ⟨rfl, hbw⟩
def mk1 (k : Int) : Consumer := ⟨mText (k), k + 1, k + 1 + 1⟩
def mkL (k0 : Int) (n : Nat) : List Consumer := (List.range n).map fun i : Nat => mk1 (k0 + 3 * (i : Int))
theorem mkL_len (k0 : Int) (n : Nat) : (mkL k0 n).length = n := by simp [mkL]
theorem mkL_succ (k0 : Int) (n : Nat) : mkL k0 (n + 1) = mkL k0 n ++ [mk1 (k0 + 3 * (n : Int))] := by simp [mkL, List.range_succ]
theorem mkL_get {k0 : Int} {n k : Nat} (h : k < n) : (mkL k0 n)[k]? = some (mk1 (k0 + 3 * (k : Int))) := by simp [mkL, h]
theorem mark_at {k0 : Int} {L : List Consumer} {k : Nat} (h : k < L.length) (j : Nat) (v : Value) (hv : (L[k].enc)[j]? = some v) : ((mkL k0 k ++ L.drop k).flatMap enc)[k * 3 + j]? = some v :=
  flat_get enc_len (mkL k0 k ++ L.drop k) k L[k] (by rw [List.getElem?_append_right (by rw [mkL_len]; omega), mkL_len]; simp [h]) j v hv
theorem mark_step {k0 : Int} {L : List Consumer} {k : Nat} (h : k < L.length) :
    ((((mkL k0 k ++ L.drop k).flatMap enc).set (k * 3) (.string (mText (k0 + 3 * (k : Int))))).set (k * 3 + 1) (.int .i64 (k0 + 3 * (k : Int) + 1))).set (k * 3 + 2) (.int .i64 (k0 + 3 * (k : Int) + 1 + 1)) = (mkL k0 (k + 1) ++ L.drop (k + 1)).flatMap enc := by
  have hl : ((mkL k0 k).flatMap enc).length = k * 3 := by rw [flat_length enc_len, mkL_len]
  rw [List.drop_eq_getElem_cons h, mkL_succ]
  simp only [List.flatMap_append, List.flatMap_cons, List.flatMap_nil, List.append_nil, List.append_assoc]
  generalize (mkL k0 k).flatMap enc = X at hl ⊢
  generalize (L.drop (k + 1)).flatMap enc = Y
  rw [← hl]
  simp [enc, mk1]
set_option maxHeartbeats 1000000 in
theorem markS_any (L : List Consumer) (A : Option Addr) (cap lo : Nat) (T : TypeId) (k0 : Int) (w : World) (h0 : 0 ≤ k0) (h1 : k0 + 3 * L.length ≤ 99999999) (hown : Own enc 3 T lo w (.slice A L.length cap) L) :
    Calls Try.prog 32 #[.slice A L.length cap, .int .i64 k0] w fun e w' => e = .returned (.int .i64 (k0 + 3 * L.length)) ∧ Own enc 3 T lo w' (.slice A L.length cap) (mkL k0 L.length) ∧ w.grownBy w' (Value.ownBlock (.slice A L.length cap)) := by
  by_cases hL : L.length = 0
  · have : L = [] := List.eq_nil_of_length_eq_zero hL
    subst this
    go_enter Try.func32, Try.ntmps32
    go_wp2
    go_loop [5, 1] (fun i x => i = .int .i64 0 ∧ x = .int .i64 k0) (fun _ _ => 0)
    case atStart => exact ⟨rfl, rfl⟩
    case round =>
      obtain ⟨rfl, rfl⟩ := hrel
      go_wp2
      go_ret
      exact ⟨ret_int (by simp), hown, World.grownBy.refl w _⟩
  · obtain ⟨g, rfl, hlo, hg⟩ := own_form hown (by omega)
    go_enter Try.func32, Try.ntmps32
    go_wp2_with fail
    go_loopw [5, 1] (fun i x wr => ∃ k : Nat, k ≤ L.length ∧ i = .int .i64 k ∧ x = .int .i64 (k0 + 3 * k) ∧ wr.ownsRow lo T 3 (.slice (some ⟨g, 0, none⟩) L.length cap) L.length ((mkL k0 k ++ L.drop k).flatMap enc) ∧ w.grownBy wr (some g)) (fun i _ _ => L.length - (intOf i).toNat)
    case atStart => exact ⟨0, Nat.zero_le _, rfl, by simp, by unfold Own at hown; simpa [mkL] using hown, World.grownBy.refl w _⟩
    case round =>
      obtain ⟨k, hk, rfl, rfl, ho, hgr⟩ := hrel
      by_cases hlt : k < L.length
      · have hgl := own_lt ho
        have c0 : wr.cell? ⟨g, k * 3, none⟩ = some (.string L[k].name) := own_cell ho (mark_at (k0 := k0) hlt 0 _ rfl)
        have c1 : wr.cell? ⟨g, k * 3 + 1, none⟩ = some (.int .i64 L[k].watts) := own_cell ho (mark_at (k0 := k0) hlt 1 _ rfl)
        have c2 : wr.cell? ⟨g, k * 3 + 2, none⟩ = some (.int .i64 L[k].rank) := own_cell ho (mark_at (k0 := k0) hlt 2 _ rfl)
        have f0 := ho.frozenAt (k * 3)
        have f1 := ho.frozenAt (k * 3 + 1)
        have f2 := ho.frozenAt (k * 3 + 2)
        go_wp2_with (go_at_call 73; refine (markText_any _ _ (by omega) (by omega)).mono ?_; rintro e w1 ⟨rfl, hb1⟩; have q0 := below_cell hb1 c0; have r0 := below_frozen hb1 c0 f0; have q1 := below_cell hb1 c1; have r1 := below_frozen hb1 c1 f1; have q2 := below_cell hb1 c2; have r2 := below_frozen hb1 c2 f2)
        have oB := own_below ho hb1
        have o0 := own_set oB (k * 3) (.string (mText (k0 + 3 * (k : Int))))
        have o1 := own_set o0 (k * 3 + 1) (.int .i64 (k0 + 3 * (k : Int) + 1))
        have o2 := own_set o1 (k * 3 + 2) (.int .i64 (k0 + 3 * (k : Int) + 1 + 1))
        rw [mark_step hlt] at o2
        go_roundw
        case rel => exact ⟨k + 1, by omega, by go_num, by go_num, o2, grown_set (grown_set (grown_set (grown_below (hgr) hb1)))⟩
        case measure => simp [intOf]; omega
      · obtain rfl : k = L.length := by omega
        go_wp2_with fail
        go_ret
        refine ⟨rfl, ?_, hgr⟩
        rw [List.drop_length, List.append_nil] at ho
        unfold Own
        rwa [mkL_len]
end Consumer
end Go.Proofs.Ytafefnpmgpmjpaa
