/- The struct Pattern, which holds a slice of numbers: its size, its copy, its equality, its marks, one and in slices. Slices have at most 2^20 elements in all, marks are at most 10^8. -/
import Derived.Test.YtmnepaedkilnoaaGrid
import Derived.Test.YtmnepaedkilnoaaToInt
import Derived.Test.YtmnepaedkilnoaaWords
namespace Go.Proofs.Ytmnepaedkilnoaa
open Go Go.RowKit
set_option linter.unusedVariables false
structure Pat where
  fault : Int
  codes : List Int
  within : Int
structure Pattern extends Pat where
  ca : Option Addr
  cc : Nat
namespace Pattern
def row (c : Pattern) : Row := ⟨c.codes, c.ca, c.cc⟩
def enc (c : Pattern) : List Value := [.int .i64 c.fault, .slice c.ca c.codes.length c.cc, .int .i64 c.within]
theorem enc_len (c : Pattern) : c.enc.length = 3 := rfl
def Ok (c : Pattern) : Prop := c.codes.length ≤ maxLen
def Fits (c : Pattern) : Prop := (Lit.int .i64 c.fault).wf = true ∧ (Lit.int .i64 c.within).wf = true ∧ ∀ n ∈ c.codes, (Lit.int .i64 n).wf = true
theorem cells {w : World} {b o k : Nat} {c : Pattern} (h : w.rangeAt b (o + k * 3) c.enc) : w.cell? ⟨b, o + k * 3, none⟩ = some (.int .i64 c.fault) ∧ w.cell? ⟨b, o + k * 3 + 1, none⟩ = some (.slice c.ca c.codes.length c.cc) ∧ w.cell? ⟨b, o + k * 3 + 2, none⟩ = some (.int .i64 c.within) :=
  ⟨h 0 _ rfl, h 1 _ rfl, h 2 _ rfl⟩
theorem rd_at {B : Nat} {w : World} {A : Option Addr} {L : List Pattern} (h : Rd enc 3 B w A L) (hL : L ≠ []) : ∃ b o, A = some ⟨b, o, none⟩ ∧ b < B ∧ ∀ (k : Nat) (c : Pattern), L[k]? = some c → w.cell? ⟨b, o + k * 3, none⟩ = some (.int .i64 c.fault) ∧ w.cell? ⟨b, o + k * 3 + 1, none⟩ = some (.slice c.ca c.codes.length c.cc) ∧ w.cell? ⟨b, o + k * 3 + 2, none⟩ = some (.int .i64 c.within) := by
  obtain ⟨b, o, hA, hb, hc⟩ := h.at_ hL
  exact ⟨b, o, hA, hb, fun k c hk => cells (hc k c hk)⟩
theorem box_after (w : World) (c : Pattern) (T : TypeId) : ∀ d : After (w.alloc (.cells #[.int .i64 c.fault, .slice c.ca c.codes.length c.cc, .int .i64 c.within] T)), d.1.cell? ⟨w.heap.size, 0, none⟩ = some (.int .i64 c.fault) ∧ d.1.cell? ⟨w.heap.size, 1, none⟩ = some (.slice c.ca c.codes.length c.cc) ∧ d.1.cell? ⟨w.heap.size, 2, none⟩ = some (.int .i64 c.within) :=
  fun d => ⟨after_cell (by simp) d, after_cell (by simp) d, after_cell (by simp) d⟩
/- the slices inside -/
def DeepP (B : Nat) (w : World) (L : List Pattern) : Prop := ∀ c ∈ L, Rd encI 1 B w c.ca c.codes
theorem DeepP.later {w w' : World} {L : List Pattern} (h : DeepP w.heap.size w L) (hb : Below w.heap.size w w') : DeepP w'.heap.size w' L := fun c hc => (h c hc).later hb
abbrev pats (L : List Pattern) : List Pat := L.map Pattern.toPat
def sz1 (c : Pattern) (left : Int) : Int := if left - c.codes.length < 0 then -1 else left - c.codes.length
def szL : List Pattern → Int → Int
  | [], l => l
  | c :: r, l => if c.sz1 l < 0 then -1 else szL r (c.sz1 l)
def szS (L : List Pattern) (left : Int) : Int := if left - L.length < 0 then -1 else szL L (left - L.length)
theorem szI_no (L : List Int) (A : Option Addr) (cap : Nat) (left : Int) (w : World) (hl : L.length ≤ maxLen) (h0 : 0 ≤ left) (h1 : left ≤ 1048576) (h : left - L.length < 0) :
    Calls Try.prog 81 #[.slice A L.length cap, .int .i64 left] w fun e w' => e = .returned (.int .i64 (-1)) ∧ w = w' := by
  unfold maxLen at hl
  go_enter Try.func81, Try.ntmps81
  go_wp2
  go_ret
  exact ⟨rfl, rfl⟩
theorem szI_yes (L : List Int) (A : Option Addr) (cap : Nat) (left : Int) (w : World) (hl : L.length ≤ maxLen) (h0 : 0 ≤ left) (h1 : left ≤ 1048576) (h : 0 ≤ left - L.length) :
    Calls Try.prog 81 #[.slice A L.length cap, .int .i64 left] w fun e w' => e = .returned (.int .i64 (left - L.length)) ∧ w = w' := by
  unfold maxLen at hl
  go_enter Try.func81, Try.ntmps81
  go_wp2
  go_ret
  exact ⟨rfl, rfl⟩
theorem sz1_any (c : Pattern) (left : Int) (w : World) (hs : c.codes.length ≤ maxLen) (h0 : 0 ≤ left) (h1 : left ≤ 1048576) :
    Calls Try.prog 58 #[.agg #[.int .i64 c.fault, .slice c.ca c.codes.length c.cc, .int .i64 c.within], .int .i64 left] w fun e w' => e = .returned (.int .i64 (c.sz1 left)) ∧ Below w.heap.size w w' := by
  have hs' := hide hs
  unfold maxLen at hs
  by_cases h : left - c.codes.length < 0
  · go_enter Try.func58, Try.ntmps58
    go_wp2_with (go_at_call 81; refine (szI_no c.codes _ _ _ _ hs'.out h0 h1 h).mono ?_; rintro e w1 ⟨rfl, rfl⟩)
    go_ret
    exact ⟨ret_int (by rw [sz1, if_pos h]), (Below.refl _ _).alloc (Nat.le_refl _) _⟩
  · have h' : 0 ≤ left - c.codes.length := by omega
    go_enter Try.func58, Try.ntmps58
    go_wp2_with (go_at_call 81; refine (szI_yes c.codes _ _ _ _ hs'.out h0 h1 h').mono ?_; rintro e w1 ⟨rfl, rfl⟩)
    go_ret
    exact ⟨ret_int (by rw [sz1, if_neg (by omega)]), (Below.refl _ _).alloc (Nat.le_refl _) _⟩
theorem sz1_le (c : Pattern) (l : Int) : c.sz1 l ≤ l ∨ c.sz1 l = -1 := by unfold sz1; split <;> omega
theorem szL_step {L : List Pattern} {k : Nat} (h : k < L.length) (x : Int) : szL (L.drop k) x = if L[k].sz1 x < 0 then -1 else szL (L.drop (k + 1)) (L[k].sz1 x) := by
  rw [List.drop_eq_getElem_cons h, szL]
set_option maxHeartbeats 400000 in
theorem szS_any (L : List Pattern) (A : Option Addr) (cap : Nat) (left : Int) (w : World) (hr : Rd enc 3 w.heap.size w A L) (hw : ∀ c ∈ L, c.Ok) (hl : L.length ≤ maxLen) (h0 : 0 ≤ left) (h1 : left ≤ 1048576) :
    Calls Try.prog 19 #[.slice A L.length cap, .int .i64 left] w fun e w' => e = .returned (.int .i64 (szS L left)) ∧ Below w.heap.size w w' := by
  unfold maxLen at hl
  by_cases hn : left - L.length < 0
  · go_enter Try.func19, Try.ntmps19
    go_wp2
    go_ret
    exact ⟨ret_int (by rw [szS, if_pos hn]), Below.refl _ _⟩
  · by_cases hL : L = []
    · subst hL
      go_enter Try.func19, Try.ntmps19
      go_wp2
      go_loop [5, 1] (fun i x => i = .int .i64 0 ∧ x = .int .i64 left) (fun _ _ => 0)
      case atStart => exact ⟨rfl, by simp⟩
      case round =>
        obtain ⟨rfl, rfl⟩ := hrel
        go_wp2
        go_ret
        exact ⟨ret_int (by simp [szS, szL]; omega), Below.refl _ _⟩
    · obtain ⟨b, o, rfl, hb, hc⟩ := rd_at hr hL
      clear hr
      go_enter Try.func19, Try.ntmps19
      go_wp2_with fail
      go_loopw [5, 1] (fun i l wr => ∃ (k : Nat) (x : Int), k ≤ L.length ∧ i = .int .i64 k ∧ l = .int .i64 x ∧ 0 ≤ x ∧ x ≤ 1048576 ∧ Hid (szL (L.drop k) x = szL L (left - L.length)) ∧ Below w.heap.size w wr) (fun i _ _ => L.length - (intOf i).toNat)
      case atStart => exact ⟨0, _, Nat.zero_le _, rfl, rfl, by omega, by omega, hide rfl, Below.refl _ _⟩
      case round =>
        obtain ⟨k, x, hk, rfl, rfl, hx0, hx1, hq, hbel⟩ := hrel
        by_cases hlt : k < L.length
        · obtain ⟨c0, c1, c2⟩ := hc k _ (List.getElem?_eq_getElem hlt)
          have hok := hw L[k] (List.getElem_mem hlt)
          have HS := hide (szL_step hlt x)
          generalize L[k] = c at *
          replace c0 := below_cell hbel c0
          replace c1 := below_cell hbel c1
          replace c2 := below_cell hbel c2
          have hok' : c.codes.length ≤ maxLen := hok
          clear hok
          rcases sz1_le c x with hle | hle
          · by_cases hneg : c.sz1 x < 0
            · go_wp2_with (go_at_call 58; refine (sz1_any c x _ hok' hx0 hx1).mono ?_; rintro e w1 ⟨rfl, hb1⟩)
              go_ret
              exact ⟨ret_int (by rw [szS, if_neg (by omega), ← hq.out, HS.out, if_pos hneg]), below_step hbel hb1 (Nat.le_refl _)⟩
            · go_wp2_with (go_at_call 58; refine (sz1_any c x _ hok' hx0 hx1).mono ?_; rintro e w1 ⟨rfl, hb1⟩)
              go_roundw
              case rel => exact ⟨k + 1, _, by omega, by go_num, rfl, by omega, by omega, hide (by rw [← hq.out, HS.out, if_neg (by omega)]), below_step hbel hb1 (Nat.le_refl _)⟩
              case measure => simp [intOf]; omega
          · have hneg : c.sz1 x < 0 := by omega
            have HL := hide hle; clear hle
            go_wp2_with (go_at_call 58; refine (sz1_any c x _ hok' hx0 hx1).mono ?_; rintro e w1 ⟨rfl, hb1⟩)
            go_ret
            exact ⟨ret_int (by rw [szS, if_neg (by omega), ← hq.out, HS.out, if_pos hneg]), below_step hbel hb1 (Nat.le_refl _)⟩
        · go_wp2_with fail
          go_ret
          exact ⟨ret_int (by rw [szS, if_neg (by omega), ← hq.out, List.drop_eq_nil_of_le (by omega), szL]), hbel⟩
/- what fits: the codes of all patterns together -/
def sumC (L : List Pattern) : Nat := (L.map fun c => c.codes.length).sum
theorem sumC_cons (c : Pattern) (L : List Pattern) : sumC (c :: L) = c.codes.length + sumC L := by simp [sumC]
theorem sumC_mem : ∀ (L : List Pattern) (c : Pattern), c ∈ L → c.codes.length ≤ sumC L
  | [], _, h => by cases h
  | d :: r, c, h => by
    rw [sumC_cons]
    rcases List.mem_cons.1 h with rfl | h
    · omega
    · have := sumC_mem r c h; omega
theorem szL_fit : ∀ (L : List Pattern) (x : Int), 0 ≤ szL L x → (sumC L : Int) + szL L x ≤ x
  | [], x, _ => by simp [sumC, szL]
  | c :: r, x, h => by
    unfold szL at h ⊢
    split at h
    · omega
    · rename_i hn
      rw [if_neg hn]
      have := szL_fit r _ h
      rw [sumC_cons]
      unfold sz1 at hn this ⊢
      split at hn
      · omega
      · rename_i hx
        rw [if_neg hx] at this ⊢
        omega
theorem szS_fit {L : List Pattern} {left : Int} (h : 0 ≤ szS L left) : (L.length : Int) + sumC L ≤ left ∧ szS L left ≤ left := by
  unfold szS at *
  split at h
  · omega
  · rename_i hn
    rw [if_neg hn]
    have := szL_fit L _ h
    omega
set_option maxHeartbeats 400000 in
theorem to_any (c : Pattern) (w : World) (hn : c.codes.length ≤ 1048576) (hd : Rd encI 1 w.heap.size w c.ca c.codes) :
    Calls Try.prog 60 #[.agg #[.int .i64 c.fault, .slice c.ca c.codes.length c.cc, .int .i64 c.within]] w fun e w' => ∃ g, e = .returned (.agg #[.int .i64 c.fault, .slice (some ⟨g, 0, none⟩) c.codes.length c.codes.length, .int .i64 c.within]) ∧ Own encI 1 3 w.heap.size w' (.slice (some ⟨g, 0, none⟩) c.codes.length c.codes.length) c.codes ∧ w.heap.size ≤ g ∧ Below w.heap.size w w' := by
  go_enter Try.func60, Try.ntmps60
  go_wp2_with (go_at_call 82; refine (toIntS_any c.codes _ _ _ hn (hd.later ((((Below.refl _ _).alloc (Nat.le_refl _) _).alloc (by simp) _).alloc (by simp; omega) _))).mono ?_; rintro e w1 ⟨rfl, ho, hb1⟩; obtain ⟨x2, _⟩ := CF.below (CF.alloc (CF.alloc (CF.new _ _ _ w.heap.size 2 _ (by simp) rfl) _) _) hb1; obtain ⟨y0, _⟩ := CF.below (CF.new _ _ _ (w.heap.size + 1 + 1) 0 _ (by simp) rfl) hb1; obtain ⟨y1, f1⟩ := CF.below (CF.new _ _ _ (w.heap.size + 1 + 1) 1 _ (by simp) rfl) hb1; obtain ⟨y2, f2⟩ := CF.below (CF.new _ _ _ (w.heap.size + 1 + 1) 2 _ (by simp) rfl) hb1; obtain ⟨z0, g0⟩ := CF.below (CF.alloc (CF.new _ _ _ (w.heap.size + 1) 0 _ (by simp) rfl) _) hb1; obtain ⟨z1, g1⟩ := CF.below (CF.alloc (CF.new _ _ _ (w.heap.size + 1) 1 _ (by simp) rfl) _) hb1; obtain ⟨z2, g2⟩ := CF.below (CF.alloc (CF.new _ _ _ (w.heap.size + 1) 2 _ (by simp) rfl) _) hb1)
  refine bodyPost_ret (v := .agg #[.int .i64 c.fault, .slice (some ⟨w.heap.size + 1 + 1 + 1, 0, none⟩) c.codes.length c.codes.length, .int .i64 c.within]) (by simp [results, Try.results60, go_sem, *]) rfl ?_
  have hs : w.heap.size + 1 + 1 + 1 ≤ w1.heap.size := by have := hb1.size; simpa using this
  have hm := Among.set_ (Among.set_ (Among.set_ (Among.set_ (Among.set_ (Among.refl (lo := w.heap.size) (hi := w.heap.size + 3) (w := w1)) (g := w.heap.size + 1 + 1) 1 (.slice (some ⟨w.heap.size + 1 + 1 + 1, 0, none⟩) c.codes.length c.codes.length) (by omega) (by omega)) (g := w.heap.size + 1 + 1) 2 (.int .i64 c.within) (by omega) (by omega)) (g := w.heap.size + 1) 0 (.int .i64 c.fault) (by omega) (by omega)) (g := w.heap.size + 1) 1 (.slice (some ⟨w.heap.size + 1 + 1 + 1, 0, none⟩) c.codes.length c.codes.length) (by omega) (by omega)) (g := w.heap.size + 1) 2 (.int .i64 c.within) (by omega) (by omega)
  have ho2 : Own encI 1 3 w.heap.size w1 (.slice (some ⟨w.heap.size + 1 + 1 + 1, 0, none⟩) c.codes.length c.codes.length) c.codes := by
    have := ho.mono (lo' := w.heap.size) (by simp; omega)
    simpa using this
  refine ⟨w.heap.size + 1 + 1 + 1, rfl, Among.own hm ho2 (fun k hk => ?_), by omega, ?_⟩
  · simp only [Value.ownBlock, Option.some.injEq] at hk
    omega
  · exact Below.trans (below_new' (below_new' (below_new' hb1))) (hm.below (by omega))
theorem len_pats {L M : List Pattern} (h : pats L = pats M) : L.length = M.length := by simpa using congrArg List.length h
theorem at_pats {L M : List Pattern} (h : pats L = pats M) {k : Nat} {c d : Pattern} (hc : L[k]? = some c) (hd : M[k]? = some d) : c.toPat = d.toPat := by
  have h1 : (pats L)[k]? = some c.toPat := by simp [pats, hc]
  have h2 : (pats M)[k]? = some d.toPat := by simp [pats, hd]
  rw [h, h2] at h1
  injection h1 with h1
  exact h1.symm
theorem row_deep {w : World} {T lo : Nat} {L : List Pattern} (h : OwnRows T lo w (L.map row)) : DeepP w.heap.size w L := fun c hc => h.deep c.row (List.mem_map_of_mem hc)
theorem infoP : (Try.prog.info? 62).map (fun i => (i.zero, i.size, i.bytes)) = some (some (.agg #[.int .i64 0, .slice none 0 0, .int .i64 0]), 3, 40) := by kernel_rfl
set_option maxRecDepth 100000 in
set_option maxHeartbeats 800000 in
theorem toS_any (L : List Pattern) (A : Option Addr) (cap : Nat) (w : World) (hn : L.length ≤ 1048576) (hs : sumC L ≤ 1048576) (hr : Rd enc 3 w.heap.size w A L) (hd : DeepP w.heap.size w L) :
    Calls Try.prog 21 #[.slice A L.length cap] w fun e w' => ∃ M : List Pattern, e = .returned (.slice (some ⟨w.heap.size, 0, none⟩) M.length M.length) ∧ pats M = pats L ∧ Own enc 3 62 w.heap.size w' (.slice (some ⟨w.heap.size, 0, none⟩) M.length M.length) M ∧ OwnRows 3 (w.heap.size + 1) w' (M.map row) ∧ Below w.heap.size w w' := by
  obtain ⟨i0, hi, hz0, hz1, hz2⟩ := info_parts infoP
  have hmk : ∀ W : World, (Instr.makeSlice 32 (.int .i64 (L.length : Int)) (.int .i64 (L.length : Int))).run Try.prog W = .ok (.slice (some ⟨W.heap.size, 0, none⟩) L.length L.length) (W.alloc (.cells (madeCells #[.int .i64 0, .slice none 0 0, .int .i64 0] (L.length * 3)) 62)) := by
    intro W
    have := run_make_rowN (P := Try.prog) 32 62 i0 _ Try.underlying32 hi hz0 .i64 .i64 L.length L.length (Nat.le_refl _) (by rw [hz2]; omega) (by omega) W
    rw [hz1] at this
    exact this
  have fill0 : Fill (w.alloc (.cells (madeCells #[.int .i64 0, .slice none 0 0, .int .i64 0] (L.length * 3)) 62)) w.heap.size 62 (L.length * 3) [] := Fill.new _ _ _ (size_madeCells _ _)
  by_cases hL : L = []
  · subst hL
    simp only [List.length_nil, Int.natCast_zero, Nat.zero_mul] at hmk fill0
    go_enter Try.func21, Try.ntmps21
    go_wp2_with fail
    go_loopw [4] (fun i wr => i = .int .i64 0 ∧ Fill wr w.heap.size 62 0 [] ∧ Below w.heap.size w wr) (fun _ _ => 0)
    case atStart => exact ⟨rfl, by simpa using fill0, (Below.refl _ _).alloc (Nat.le_refl _) _⟩
    case round =>
      obtain ⟨rfl, hf, hb⟩ := hrel
      go_wp2_with fail
      go_ret
      exact ⟨[], rfl, rfl, Fill.own (sz := 3) (n := 0) (by simpa using hf) rfl (Nat.le_refl _) (Nat.zero_le _), OwnRows.nil, hb⟩
  · obtain ⟨b, o, rfl, hb, hc⟩ := rd_at hr hL
    clear hr
    go_enter Try.func21, Try.ntmps21
    go_wp2_with fail
    go_loopw [4] (fun i wr => ∃ (k : Nat) (M : List Pattern), k ≤ L.length ∧ i = .int .i64 k ∧ M.length = k ∧ Hid (pats M = pats (L.take k)) ∧ Fill wr w.heap.size 62 (L.length * 3) (M.flatMap enc) ∧ OwnRows 3 (w.heap.size + 1) wr (M.map row) ∧ Below w.heap.size w wr) (fun i _ => L.length - (intOf i).toNat)
    case atStart => exact ⟨0, [], Nat.zero_le _, rfl, rfl, hide rfl, fill0, OwnRows.nil, (Below.refl _ _).alloc (Nat.le_refl _) _⟩
    case round =>
      obtain ⟨k, M, hk, rfl, hml, hq, hf, hro, hbel⟩ := hrel
      by_cases hlt : k < L.length
      · obtain ⟨c0, c1, c2⟩ := hc k _ (List.getElem?_eq_getElem hlt)
        have HT := hide (take_snocL L k hlt)
        have hdc := hide ((hd L[k] (List.getElem_mem hlt)).later hbel)
        have hcl := sumC_mem L L[k] (List.getElem_mem hlt)
        have HF := hide (show (M.flatMap enc).length = k * 3 by rw [flat_length enc_len, hml])
        generalize L[k] = c at *
        replace c0 := below_cell hbel c0
        replace c1 := below_cell hbel c1
        replace c2 := below_cell hbel c2
        have hwl := hf.lt
        have HM := hide hml; clear hml
        go_wp2_with (first | (go_at_call 60; refine (to_any c _ (by omega) hdc.out).mono ?_; rintro e w1 ⟨g, rfl, ho1, hg1, hb1⟩; have hf1 := hf.below hb1) | (with_reducible show wpList _ _ _ (⟨none, _, _, _, _, _⟩ :: _) _ _; refine wpList_store_mid rfl 62 (.tmp 21) (.tmp 20) rfl w.heap.size (k * 3) #[.int .i64 c.fault, .slice (some ⟨g, 0, none⟩) c.codes.length c.codes.length, .int .i64 c.within] rfl rfl (hf1.there_ (by simp; omega)) (by kernel_rfl) (by simp [Value.oneCell']) ?_))
        go_roundw
        case rel =>
          have ham := Among.setCells (Among.refl (lo := w.heap.size) (hi := w.heap.size + 1) (w := w1)) w.heap.size (Nat.le_refl _) (by omega) [.int .i64 c.fault, .slice (some ⟨g, 0, none⟩) c.codes.length c.codes.length, .int .i64 c.within] (k * 3)
          refine ⟨k + 1, M ++ [⟨c.toPat, some ⟨g, 0, none⟩, c.codes.length⟩], by omega, by go_num, by simp [HM.out], hide ?_, ?_, ?_, below_setCells _ (Nat.le_refl _) _ _ _ (below_step hbel hb1 (Nat.le_refl _))⟩
          · rw [HT.out]; simp only [pats, List.map_append]; rw [show M.map Pattern.toPat = (L.take k).map Pattern.toPat from hq.out]; rfl
          · have := Fill.store [.int .i64 c.fault, .slice (some ⟨g, 0, none⟩) c.codes.length c.codes.length, .int .i64 c.within] hf1 (by rw [HF.out]; simp; omega)
            rw [HF.out] at this
            rw [List.flatMap_append]
            simpa [enc] using this
          · have h2 := OwnRows.snoc (r := ⟨c.codes, some ⟨g, 0, none⟩, c.codes.length⟩) hro hb1 rfl ho1 (by omega) (Nat.le_refl _)
            rw [List.map_append]
            exact h2.among ham (fun r hr g' hg' => .inr (h2.lt hr hg').1)
        case measure => simp [intOf]; omega
      · obtain rfl : k = L.length := by omega
        go_wp2_with fail
        go_ret
        have hq2 : pats M = pats L := by have := hq.out; rwa [List.take_length] at this
        refine ⟨M, ?_, hq2, ?_, hro, hbel⟩
        · rw [hml]; rfl
        · rw [← hml] at hf
          exact Fill.own hf (flat_length enc_len M) (Nat.le_refl _) (by unfold maxLen; omega)
set_option maxHeartbeats 400000 in
theorem eq_same (c d : Pattern) (w : World) (h : c.toPat = d.toPat) (hn : c.codes.length ≤ 1048576) (hc : Rd encI 1 w.heap.size w c.ca c.codes) (hd : Rd encI 1 w.heap.size w d.ca d.codes) :
    Calls Try.prog 62 #[.agg #[.int .i64 c.fault, .slice c.ca c.codes.length c.cc, .int .i64 c.within], .agg #[.int .i64 d.fault, .slice d.ca d.codes.length d.cc, .int .i64 d.within]] w fun e w' => e = .returned (.bool true) ∧ Below w.heap.size w w' := by
  obtain ⟨p, ca, cc⟩ := c
  obtain ⟨q, da, dc⟩ := d
  obtain rfl : p = q := h
  have hbb : ∀ o1 o2 : Obj, Below w.heap.size w ((w.alloc o1).alloc o2) := fun o1 o2 => ((Below.refl _ _).alloc (Nat.le_refl _) _).alloc (by simp) _
  have hc' := hide (fun o1 o2 => hc.later (hbb o1 o2))
  have hd' := hide (fun o1 o2 => hd.later (hbb o1 o2))
  clear hc hd
  go_enter Try.func62, Try.ntmps62
  go_wp2_with (go_at_call 36; refine (eqIntS_same p.codes _ _ _ _ _ (by omega) (hc'.out _ _) (hd'.out _ _)).mono ?_; rintro e w1 ⟨rfl, hb1⟩; obtain ⟨x2, _⟩ := CF.below (CF.alloc (CF.new _ _ _ w.heap.size 2 _ (by simp) rfl) _) hb1; obtain ⟨y2, _⟩ := CF.below (CF.new _ _ _ (w.heap.size + 1) 2 _ (by simp) rfl) hb1)
  go_ret
  exact ⟨rfl, below_new' (below_new' hb1)⟩
theorem eq_is {c d : Pattern} (h : c.toPat = d.toPat) (hn : c.codes.length ≤ 1048576) (w : World) (hc : Rd encI 1 w.heap.size w c.ca c.codes) (hd : Rd encI 1 w.heap.size w d.ca d.codes) :
    Calls Try.prog 62 #[.agg #[.int .i64 c.fault, .slice c.ca c.codes.length c.cc, .int .i64 c.within], .agg #[.int .i64 d.fault, .slice d.ca d.codes.length d.cc, .int .i64 d.within]] w fun e w' => e = .returned (.bool true) ∧ Below w.heap.size w w' := eq_same c d w h hn hc hd
set_option maxHeartbeats 400000 in
theorem eqS_same (L M : List Pattern) (h : pats L = pats M) (A B : Option Addr) (ca cb : Nat) (w : World) (hn : L.length ≤ 1048576) (hs : sumC L ≤ 1048576) (ha : Rd enc 3 w.heap.size w A L) (hb : Rd enc 3 w.heap.size w B M) (da : DeepP w.heap.size w L) (db : DeepP w.heap.size w M) :
    Calls Try.prog 23 #[.slice A L.length ca, .slice B M.length cb] w fun e w' => e = .returned (.bool true) ∧ Below w.heap.size w w' := by
  have hlm := len_pats h
  by_cases hL : L = []
  · subst hL
    have : M = [] := List.eq_nil_of_length_eq_zero (by rw [← hlm]; rfl)
    subst this
    clear hlm h
    go_enter Try.func23, Try.ntmps23
    go_wp2
    go_loop [5] (fun i => i = .int .i64 0) (fun _ => 0)
    case atStart => rfl
    case round =>
      obtain rfl := hrel
      go_wp2
      go_ret
      exact ⟨rfl, Below.refl _ _⟩
  · have hM : M ≠ [] := by intro e; rw [e] at hlm; exact hL (List.eq_nil_of_length_eq_zero hlm)
    obtain ⟨b1, o1, rfl, _, hc1⟩ := rd_at ha hL
    obtain ⟨b2, o2, rfl, _, hc2⟩ := rd_at hb hM
    clear ha hb
    obtain ⟨n, hln⟩ : ∃ n, L.length = n := ⟨_, rfl⟩
    have hmn : M.length = n := by omega
    rw [hln, hmn]
    have HLN := hide hln; have HMN := hide hmn
    rw [hln] at hn
    clear hlm hln hmn
    go_enter Try.func23, Try.ntmps23
    go_wp2_with fail
    go_loopw [5] (fun i wr => ∃ k : Nat, k ≤ n ∧ i = .int .i64 k ∧ Below w.heap.size w wr) (fun i _ => n - (intOf i).toNat)
    case atStart => exact ⟨0, Nat.zero_le _, rfl, Below.refl _ _⟩
    case round =>
      obtain ⟨k, hk, rfl, hbw⟩ := hrel
      by_cases hlt : k < n
      · have hl1 : k < L.length := by rw [HLN.out]; exact hlt
        have hl2 : k < M.length := by rw [HMN.out]; exact hlt
        have g1 := List.getElem?_eq_getElem hl1
        have g2 := List.getElem?_eq_getElem hl2
        obtain ⟨c0, c1, c2⟩ := hc1 k _ g1
        obtain ⟨d0, d1, d2⟩ := hc2 k _ g2
        have HP := hide (at_pats h g1 g2)
        have D1 := hide ((da L[k] (List.getElem_mem hl1)).later hbw)
        have D2 := hide ((db M[k] (List.getElem_mem hl2)).later hbw)
        have hcl := sumC_mem L L[k] (List.getElem_mem hl1)
        have hki : (k : Int) < (n : Int) := by omega
        generalize L[k] = c at *
        generalize M[k] = d at *
        clear g1 g2 hl1 hl2
        replace c0 := after_cell (below_cell hbw c0)
        replace d0 := after_cell (below_cell hbw d0)
        replace c1 := after_cell (below_cell hbw c1)
        replace d1 := after_cell (below_cell hbw d1)
        replace c2 := after_cell (below_cell hbw c2)
        replace d2 := after_cell (below_cell hbw d2)
        have hc1048 : c.codes.length ≤ 1048576 := by omega
        go_wp2_with fail
        refine wp_region_after (by kernel_rfl) (by kernel_rfl) ?_
        repeat (first | go_big_quiet_step ((go_at_call 62; exact Calls.after (eq_is HP.out hc1048 _ (Rd.later D1.out (Subtype.property _)) (Rd.later D2.out (Subtype.property _))))) | quiet_step ((go_at_call 62; exact Calls.after (eq_is HP.out hc1048 _ (Rd.later D1.out (Subtype.property _)) (Rd.later D2.out (Subtype.property _))))))
        refine wpQuiet_nil ?_
        rintro _ ⟨⟨w1, hb1⟩, rfl⟩
        go_wp2_with fail
        go_roundw
        case rel => exact ⟨k + 1, by omega, by go_num, below_step hbw hb1 (Nat.le_refl _)⟩
        case measure => simp [intOf]; omega
      · go_wp2_with fail
        go_ret
        exact ⟨rfl, hbw⟩
theorem sumC_pats {L M : List Pattern} (h : pats L = pats M) : sumC L = sumC M := by
  have : ∀ L : List Pattern, sumC L = ((pats L).map fun p => p.codes.length).sum := fun L => by simp [sumC, pats, Function.comp_def]
  rw [this, this, h]
theorem ok_pats {L M : List Pattern} (h : pats L = pats M) (hok : ∀ c ∈ M, c.Ok) : ∀ c ∈ L, c.Ok := fun c hc => by
  obtain ⟨k, hk, rfl⟩ := List.mem_iff_getElem.1 hc
  have hk2 : k < M.length := by rw [← len_pats h]; exact hk
  have h1 := at_pats h (List.getElem?_eq_getElem hk) (List.getElem?_eq_getElem hk2)
  have h2 := hok M[k] (List.getElem_mem hk2)
  unfold Ok at *
  rw [h1]; exact h2
end Pattern
end Go.Proofs.Ytmnepaedkilnoaa
