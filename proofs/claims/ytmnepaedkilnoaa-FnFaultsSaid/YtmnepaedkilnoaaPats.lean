/- Patterns: whether they are patterns; the program's function and the reference's. Slices are as the reader gives them. -/
import Derived.Test.YtmnepaedkilnoaaRec
import Derived.Test.YtmnepaedkilnoaaAllIn
namespace Go.Proofs.Ytmnepaedkilnoaa
open Go Go.RowKit
set_option linter.unusedVariables false
theorem allIn_codes {l : List Int} {b : Bool} (h : codesB l = b) (A : Option Addr) (cap : Nat) (w : World) (hr : Rd encI 1 w.heap.size w A l) (hl : l.length ≤ maxLen) :
    Calls Try.prog 61 #[.slice A l.length cap, .int .i64 1, .int .i64 20] w fun e w' => e = .returned (.bool b) ∧ w = w' := h ▸ allIn_any l 1 20 A cap w hr hl
def patC (c : Pattern) : Bool := inB c.fault 1 99 && (inB c.codes.length 1 5 && (codesB c.codes && inB c.within 0 1000))
def patCLt (d c : Pattern) : Bool := decide (d.fault < c.fault)
theorem riseAt_map {α β : Type} (f : α → β) (one : β → Bool) (lt : β → β → Bool) (L : List α) (i : Nat) : riseAt one lt (L.map f) i = riseAt (fun c => one (f c)) (fun d c => lt (f d) (f c)) L i := by
  unfold riseAt
  simp only [List.getElem?_map]
  cases L[i]? with
  | none => rfl
  | some c => cases L[i - 1]? <;> rfl
theorem riseB_map {α β : Type} (f : α → β) (one : β → Bool) (lt : β → β → Bool) (mx : Nat) (L : List α) : riseB one lt mx (L.map f) = riseB (fun c => one (f c)) (fun d c => lt (f d) (f c)) mx L := by
  unfold riseB
  rw [List.length_map]
  congr 2
  exact funext (riseAt_map f one lt L)
theorem patsB_is (L : List Pattern) : patsB (Pattern.pats L) = riseB patC patCLt 6 L := riseB_map Pattern.toPat patB patLt 6 L
theorem upto_code {l : List Int} {q : Nat} {n : Int} (h : ∀ (i : Nat) (n : Int), i < q → l[i]? = some n → inB n 1 20 = true) (hg : l[q]? = some n) (hn : inB n 1 20 = true) : ∀ (i : Nat) (n : Int), i < q + 1 → l[i]? = some n → inB n 1 20 = true := fun i m hi hm => by
  rcases Nat.lt_or_eq_of_le (Nat.lt_succ_iff.1 hi) with h1 | h1
  · exact h i m h1 hm
  · subst h1
    rw [hg] at hm
    injection hm with hm
    rw [← hm]; exact hn
theorem codes_all {l : List Int} {q : Nat} (hq : l.length ≤ q) (h : ∀ (i : Nat) (n : Int), i < q → l[i]? = some n → inB n 1 20 = true) : codesB l = true := by
  unfold codesB
  rw [List.all_eq_true]
  intro x hx
  obtain ⟨i, hi, rfl⟩ := List.mem_iff_getElem.1 hx
  exact h i _ (by omega) (List.getElem?_eq_getElem hi)
theorem codes_no {l : List Int} {q : Nat} {n : Int} (h : codesB l = true) (hg : l[q]? = some n) (hn : inB n 1 20 = false) : False := by
  unfold codesB at h
  rw [List.all_eq_true] at h
  have := h n (List.mem_of_getElem? hg)
  rw [hn] at this
  cases this

set_option maxHeartbeats 2000000 in
theorem ArePatterns_c (L : List Pattern) (A : Option Addr) (cap : Nat) (w : World) (hr : Rd Pattern.enc 3 w.heap.size w A L) (hok : ∀ c ∈ L, c.Ok) (hl : L.length ≤ maxLen) (hd : Pattern.DeepP w.heap.size w L) :
    Calls Try.prog 22 #[.slice A L.length cap] w fun e w' => e = .returned (.bool (riseB patC patCLt 6 L)) ∧ Below w.heap.size w w' := by
  unfold maxLen at hl
  by_cases hL : L = []
  · subst hL
    go_enter Try.func22, Try.ntmps22
    go_wp2_with fail
    go_loop [7] (fun i => i = .int .i64 0) (fun _ => 0)
    case atStart => rfl
    case round =>
      obtain rfl := hrel
      go_wp2_with fail
      go_ret
      exact ⟨rfl, Below.refl _ _⟩
  · obtain ⟨b, o, rfl, hb, hc⟩ := Pattern.rd_at hr hL
    clear hr
    go_enter Try.func22, Try.ntmps22
    go_wp2_with fail
    go_loopw [7] (fun i wr => ∃ k : Nat, k ≤ L.length ∧ i = .int .i64 k ∧ Hid (∀ j, j < k → riseAt patC patCLt L j = true) ∧ Below w.heap.size w wr) (fun i _ => L.length - (intOf i).toNat)
    case atStart => exact ⟨0, Nat.zero_le _, rfl, hide (fun j hj => absurd hj (Nat.not_lt_zero j)), Below.refl _ _⟩
    case round =>
      obtain ⟨k, hk, rfl, hp, hbel⟩ := hrel
      by_cases hlt : k < L.length
      · have hget := List.getElem?_eq_getElem hlt
        obtain ⟨c0, c1, c2⟩ := hc k _ hget
        have hokc := hide (hok L[k] (List.getElem_mem hlt))
        have hdc := hide ((hd L[k] (List.getElem_mem hlt)).later hbel)
        have hcl := hide (hok L[k] (List.getElem_mem hlt))
        generalize L[k] = c at *
        have HG := hide hget; clear hget
        replace c0 := below_cell hbel c0
        replace c1 := below_cell hbel c1
        replace c2 := below_cell hbel c2
        have E := Pattern.box_after wr c 62
        have hki : (k : Int) < (L.length : Int) := by omega
        cases h0 : inB c.fault 1 99
        · have HO := hide (show patC c = false by simp [patC, h0])
          go_wp2_with fail
          refine wp_region_after (by kernel_rfl) (by kernel_rfl) ?_
          repeat (go_big_quiet_step ((first | (go_at_call 56; exact Calls.after_same (within_is (by assumption) _)) | (go_at_call 61; exact Calls.after_same (allIn_codes (by assumption) _ _ _ (Rd.later (Rd.later hdc.out ((Below.refl _ _).alloc (Nat.le_refl _) _)) (Subtype.property _)) hcl.out)))))
          refine wpQuiet_nil ?_
          rintro _ ⟨⟨w1, hb1⟩, rfl⟩
          go_wp2_with fail
          go_ret
          exact ⟨ret_bool (riseB_no hlt (rise_bad HG.out HO.out)).symm, below_next hbel hb1 (Nat.le_refl _)⟩
        · have HZ0 := True.intro
          cases h1 : inB c.codes.length 1 5
          · have HO := hide (show patC c = false by simp [patC, h0, h1])
            go_wp2_with fail
            refine wp_region_after (by kernel_rfl) (by kernel_rfl) ?_
            repeat (go_big_quiet_step ((first | (go_at_call 56; exact Calls.after_same (within_is (by assumption) _)) | (go_at_call 61; exact Calls.after_same (allIn_codes (by assumption) _ _ _ (Rd.later (Rd.later hdc.out ((Below.refl _ _).alloc (Nat.le_refl _) _)) (Subtype.property _)) hcl.out)))))
            refine wpQuiet_nil ?_
            rintro _ ⟨⟨w1, hb1⟩, rfl⟩
            go_wp2_with fail
            go_ret
            exact ⟨ret_bool (riseB_no hlt (rise_bad HG.out HO.out)).symm, below_next hbel hb1 (Nat.le_refl _)⟩
          · have HZ1 := True.intro
            cases h2 : codesB c.codes
            · have HO := hide (show patC c = false by simp [patC, h0, h1, h2])
              go_wp2_with fail
              refine wp_region_after (by kernel_rfl) (by kernel_rfl) ?_
              repeat (go_big_quiet_step ((first | (go_at_call 56; exact Calls.after_same (within_is (by assumption) _)) | (go_at_call 61; exact Calls.after_same (allIn_codes (by assumption) _ _ _ (Rd.later (Rd.later hdc.out ((Below.refl _ _).alloc (Nat.le_refl _) _)) (Subtype.property _)) hcl.out)))))
              refine wpQuiet_nil ?_
              rintro _ ⟨⟨w1, hb1⟩, rfl⟩
              go_wp2_with fail
              go_ret
              exact ⟨ret_bool (riseB_no hlt (rise_bad HG.out HO.out)).symm, below_next hbel hb1 (Nat.le_refl _)⟩
            · have HZ2 := True.intro
              cases h3 : inB c.within 0 1000
              · have HO := hide (show patC c = false by simp [patC, h0, h1, h2, h3])
                go_wp2_with fail
                refine wp_region_after (by kernel_rfl) (by kernel_rfl) ?_
                repeat (go_big_quiet_step ((first | (go_at_call 56; exact Calls.after_same (within_is (by assumption) _)) | (go_at_call 61; exact Calls.after_same (allIn_codes (by assumption) _ _ _ (Rd.later (Rd.later hdc.out ((Below.refl _ _).alloc (Nat.le_refl _) _)) (Subtype.property _)) hcl.out)))))
                refine wpQuiet_nil ?_
                rintro _ ⟨⟨w1, hb1⟩, rfl⟩
                go_wp2_with fail
                go_ret
                exact ⟨ret_bool (riseB_no hlt (rise_bad HG.out HO.out)).symm, below_next hbel hb1 (Nat.le_refl _)⟩
              · have HZ3 := True.intro
                have HO := hide (show patC c = true by simp [patC, h0, h1, h2, h3])
                rcases Nat.eq_zero_or_pos k with rfl | hk0
                · have HZ := True.intro
                  simp only [Nat.zero_mul, Nat.add_zero] at c0 c1 c2
                  go_wp2_with fail
                  refine wp_region_after (by kernel_rfl) (by kernel_rfl) ?_
                  repeat (go_big_quiet_step ((first | (go_at_call 56; exact Calls.after_same (within_is (by assumption) _)) | (go_at_call 61; exact Calls.after_same (allIn_codes (by assumption) _ _ _ (Rd.later (Rd.later hdc.out ((Below.refl _ _).alloc (Nat.le_refl _) _)) (Subtype.property _)) hcl.out)))))
                  refine wpQuiet_nil ?_
                  rintro _ ⟨⟨w1, hb1⟩, rfl⟩
                  go_wp2_with fail
                  go_roundw
                  case rel => exact ⟨0 + 1, by omega, by go_num, hide (upto_step hp.out (rise_first HG.out HO.out)), below_next hbel hb1 (Nat.le_refl _)⟩
                  case measure => simp [intOf]; omega
                · have hgd := List.getElem?_eq_getElem (show k - 1 < L.length by omega)
                  obtain ⟨p0, p1, p2⟩ := hc (k - 1) _ hgd
                  generalize L[k - 1] = d at *
                  have HD := hide hgd; clear hgd
                  replace p0 := after_alloc (.cells #[.int .i64 c.fault, .slice c.ca c.codes.length c.cc, .int .i64 c.within] 62) (below_cell hbel p0)
                  replace p1 := after_alloc (.cells #[.int .i64 c.fault, .slice c.ca c.codes.length c.cc, .int .i64 c.within] 62) (below_cell hbel p1)
                  replace p2 := after_alloc (.cells #[.int .i64 c.fault, .slice c.ca c.codes.length c.cc, .int .i64 c.within] 62) (below_cell hbel p2)
                  have hk1 : (0 : Int) < (k : Int) := by omega
                  cases hlow : patCLt d c
                  · have HL := hide hlow
                    have hkey : ¬ d.fault < c.fault := by simpa [patCLt] using hlow
                    have hb0 : decide (c.fault ≤ d.fault) = true := by simp; omega
                    clear hlow
                    go_wp2_with fail
                    refine wp_region_after (by kernel_rfl) (by kernel_rfl) ?_
                    repeat (go_big_quiet_step ((first | (go_at_call 56; exact Calls.after_same (within_is (by assumption) _)) | (go_at_call 61; exact Calls.after_same (allIn_codes (by assumption) _ _ _ (Rd.later (Rd.later hdc.out ((Below.refl _ _).alloc (Nat.le_refl _) _)) (Subtype.property _)) hcl.out)))))
                    refine wpQuiet_nil ?_
                    rintro _ ⟨⟨w1, hb1⟩, rfl⟩
                    go_wp2_with fail
                    go_ret
                    exact ⟨ret_bool (riseB_no hlt (rise_low HG.out HD.out hk0 HL.out)).symm, below_next hbel hb1 (Nat.le_refl _)⟩
                  · have HL := hide hlow
                    have hkey : d.fault < c.fault := by simpa [patCLt] using hlow
                    have hb0 : decide (c.fault ≤ d.fault) = false := by simp; omega
                    clear hlow
                    go_wp2_with fail
                    refine wp_region_after (by kernel_rfl) (by kernel_rfl) ?_
                    repeat (go_big_quiet_step ((first | (go_at_call 56; exact Calls.after_same (within_is (by assumption) _)) | (go_at_call 61; exact Calls.after_same (allIn_codes (by assumption) _ _ _ (Rd.later (Rd.later hdc.out ((Below.refl _ _).alloc (Nat.le_refl _) _)) (Subtype.property _)) hcl.out)))))
                    refine wpQuiet_nil ?_
                    rintro _ ⟨⟨w1, hb1⟩, rfl⟩
                    go_wp2_with fail
                    go_roundw
                    case rel => exact ⟨k + 1, by omega, by go_num, hide (upto_step hp.out (rise_next HG.out HD.out HO.out HL.out)), below_next hbel hb1 (Nat.le_refl _)⟩
                    case measure => simp [intOf]; omega
      · go_wp2_with fail
        go_ret
        exact ⟨ret_bool (by rw [riseB_all (by omega) hp.out]; simp; omega), hbel⟩

set_option maxHeartbeats 2000000 in
theorem l20Patterns_c (L : List Pattern) (A : Option Addr) (cap : Nat) (w : World) (hr : Rd Pattern.enc 3 w.heap.size w A L) (hok : ∀ c ∈ L, c.Ok) (hl : L.length ≤ maxLen) (hd : Pattern.DeepP w.heap.size w L) :
    Calls Try.prog 59 #[.slice A L.length cap] w fun e w' => e = .returned (.bool (riseB patC patCLt 6 L)) ∧ Below w.heap.size w w' := by
  unfold maxLen at hl
  by_cases hL : L = []
  · subst hL
    go_enter Try.func59, Try.ntmps59
    go_wp2_with fail
    go_loop [3] (fun i => i = .int .i64 0) (fun _ => 0)
    case atStart => rfl
    case round =>
      obtain rfl := hrel
      go_wp2_with fail
      go_ret
      exact ⟨rfl, Below.refl _ _⟩
  · obtain ⟨b, o, rfl, hb, hc⟩ := Pattern.rd_at hr hL
    clear hr
    go_enter Try.func59, Try.ntmps59
    go_wp2_with fail
    go_loopw [3] (fun i wr => ∃ k : Nat, k ≤ L.length ∧ i = .int .i64 k ∧ Hid (∀ j, j < k → riseAt patC patCLt L j = true) ∧ Below w.heap.size w wr) (fun i _ => L.length - (intOf i).toNat)
    case atStart => exact ⟨0, Nat.zero_le _, rfl, hide (fun j hj => absurd hj (Nat.not_lt_zero j)), Below.refl _ _⟩
    case round =>
      obtain ⟨k, hk, rfl, hp, hbel⟩ := hrel
      by_cases hlt : k < L.length
      · have hget := List.getElem?_eq_getElem hlt
        obtain ⟨c0, c1, c2⟩ := hc k _ hget
        have hokc := hide (hok L[k] (List.getElem_mem hlt))
        have hdc := hide ((hd L[k] (List.getElem_mem hlt)).later hbel)
        have hcl := hide (hok L[k] (List.getElem_mem hlt))
        generalize L[k] = c at *
        have HG := hide hget; clear hget
        replace c0 := below_cell hbel c0
        replace c1 := below_cell hbel c1
        replace c2 := below_cell hbel c2
        have E := Pattern.box_after wr c 62
        have hki : (k : Int) < (L.length : Int) := by omega
        cases h0 : inB c.fault 1 99
        · have HO := hide (show patC c = false by simp [patC, h0])
          go_wp2_with fail
          refine wp_region_after (by kernel_rfl) (by kernel_rfl) ?_
          repeat (go_big_quiet_step ((first | (go_at_call 63; exact Calls.after_same (l1In_is (by assumption) _)))))
          refine wpQuiet_nil ?_
          rintro w1 ⟨⟨_, hb1⟩, rfl⟩
          go_wp2_with fail
          go_ret
          exact ⟨ret_bool (riseB_no hlt (rise_bad HG.out HO.out)).symm, below_next hbel hb1 (Nat.le_refl _)⟩
        · have HZ0 := True.intro
          cases h1 : inB c.codes.length 1 5
          · have HO := hide (show patC c = false by simp [patC, h0, h1])
            go_wp2_with fail
            refine wp_region_after (by kernel_rfl) (by kernel_rfl) ?_
            repeat (go_big_quiet_step ((first | (go_at_call 63; exact Calls.after_same (l1In_is (by assumption) _)))))
            refine wpQuiet_nil ?_
            rintro w1 ⟨⟨_, hb1⟩, rfl⟩
            go_wp2_with fail
            go_ret
            exact ⟨ret_bool (riseB_no hlt (rise_bad HG.out HO.out)).symm, below_next hbel hb1 (Nat.le_refl _)⟩
          · have HZ1 := True.intro
            cases h2 : inB c.within 0 1000
            · have HO := hide (show patC c = false by simp [patC, h0, h1, h2])
              go_wp2_with fail
              refine wp_region_after (by kernel_rfl) (by kernel_rfl) ?_
              repeat (go_big_quiet_step ((first | (go_at_call 63; exact Calls.after_same (l1In_is (by assumption) _)))))
              refine wpQuiet_nil ?_
              rintro w1 ⟨⟨_, hb1⟩, rfl⟩
              go_wp2_with fail
              go_ret
              exact ⟨ret_bool (riseB_no hlt (rise_bad HG.out HO.out)).symm, below_next hbel hb1 (Nat.le_refl _)⟩
            · have HZ2 := True.intro
              cases hlate : codesB c.codes
              · have HO := hide (show patC c = false by simp [patC, h0, h1, h2, hlate])
                rcases Nat.eq_zero_or_pos k with rfl | hk0
                · have HZ := True.intro
                  simp only [Nat.zero_mul, Nat.add_zero] at c0 c1 c2
                  go_wp2_with fail
                  refine wp_region_after (by kernel_rfl) (by kernel_rfl) ?_
                  repeat (go_big_quiet_step ((first | (go_at_call 63; exact Calls.after_same (l1In_is (by assumption) _)))))
                  refine wpQuiet_nil ?_
                  rintro w1 ⟨⟨_, hb1⟩, rfl⟩
                  go_wp2_with fail
                  obtain ⟨e0, e1, e2⟩ := E ⟨w1, hb1⟩
                  have B1 : Below w.heap.size w w1 := below_next hbel hb1 (Nat.le_refl _)
                  have RD := hide (Rd.later (Rd.later hdc.out ((Below.refl _ _).alloc (Nat.le_refl _) _)) hb1)
                  have hcb : c.codes.length ≤ maxLen := hcl.out
                  unfold maxLen at hcb
                  go_wp2_with fail
                  go_loop [5] (fun j => ∃ q : Nat, q ≤ c.codes.length ∧ j = .int .i64 q ∧ Hid (∀ (i : Nat) (n : Int), i < q → c.codes[i]? = some n → inB n 1 20 = true)) (fun j => c.codes.length - (intOf j).toNat)
                  case atStart => exact ⟨0, Nat.zero_le _, rfl, hide (fun i n hi => absurd hi (Nat.not_lt_zero i))⟩
                  case round =>
                    obtain ⟨q, hq, rfl, hp2⟩ := hrel
                    by_cases hlq : q < c.codes.length
                    · obtain ⟨bb, oo, hca, _, hcc⟩ := rd_int RD.out (by intro h; rw [h] at hlq; simp at hlq)
                      have hg := List.getElem?_eq_getElem hlq
                      have n0 := hcc q _ hg
                      generalize c.codes[q] = n at *
                      rw [hca] at e1
                      clear hca hcc
                      have HGN := hide hg; clear hg
                      cases hn : inB n 1 20
                      · go_wp2_with (go_at_call 80; refine (l20Code_is hn _).mono ?_; rintro e w2 ⟨rfl, rfl⟩)
                        go_ret
                        exact ⟨ret_bool (riseB_no hlt (rise_bad HG.out HO.out)).symm, B1⟩
                      · go_wp2_with (go_at_call 80; refine (l20Code_is hn _).mono ?_; rintro e w2 ⟨rfl, rfl⟩)
                        go_round
                        case rel => exact ⟨q + 1, by omega, by go_num, hide (upto_code hp2.out HGN.out hn)⟩
                        case measure => simp [intOf]; omega
                    · rw [codes_all (by omega) hp2.out] at hlate; cases hlate
                · have hgd := List.getElem?_eq_getElem (show k - 1 < L.length by omega)
                  obtain ⟨p0, p1, p2⟩ := hc (k - 1) _ hgd
                  generalize L[k - 1] = d at *
                  have HD := hide hgd; clear hgd
                  replace p0 := after_alloc (.cells #[.int .i64 c.fault, .slice c.ca c.codes.length c.cc, .int .i64 c.within] 62) (below_cell hbel p0)
                  replace p1 := after_alloc (.cells #[.int .i64 c.fault, .slice c.ca c.codes.length c.cc, .int .i64 c.within] 62) (below_cell hbel p1)
                  replace p2 := after_alloc (.cells #[.int .i64 c.fault, .slice c.ca c.codes.length c.cc, .int .i64 c.within] 62) (below_cell hbel p2)
                  have hk1 : (0 : Int) < (k : Int) := by omega
                  cases hlow : patCLt d c
                  · have HL := hide hlow
                    have hkey : ¬ d.fault < c.fault := by simpa [patCLt] using hlow
                    have hb0 : decide (c.fault ≤ d.fault) = true := by simp; omega
                    clear hlow
                    go_wp2_with fail
                    refine wp_region_after (by kernel_rfl) (by kernel_rfl) ?_
                    repeat (go_big_quiet_step ((first | (go_at_call 63; exact Calls.after_same (l1In_is (by assumption) _)))))
                    refine wpQuiet_nil ?_
                    rintro w1 ⟨⟨_, hb1⟩, rfl⟩
                    go_wp2_with fail
                    go_ret
                    exact ⟨ret_bool (riseB_no hlt (rise_bad HG.out HO.out)).symm, below_next hbel hb1 (Nat.le_refl _)⟩
                  · have HL := hide hlow
                    have hkey : d.fault < c.fault := by simpa [patCLt] using hlow
                    have hb0 : decide (c.fault ≤ d.fault) = false := by simp; omega
                    clear hlow
                    go_wp2_with fail
                    refine wp_region_after (by kernel_rfl) (by kernel_rfl) ?_
                    repeat (go_big_quiet_step ((first | (go_at_call 63; exact Calls.after_same (l1In_is (by assumption) _)))))
                    refine wpQuiet_nil ?_
                    rintro w1 ⟨⟨_, hb1⟩, rfl⟩
                    go_wp2_with fail
                    obtain ⟨e0, e1, e2⟩ := E ⟨w1, hb1⟩
                    have B1 : Below w.heap.size w w1 := below_next hbel hb1 (Nat.le_refl _)
                    have RD := hide (Rd.later (Rd.later hdc.out ((Below.refl _ _).alloc (Nat.le_refl _) _)) hb1)
                    have hcb : c.codes.length ≤ maxLen := hcl.out
                    unfold maxLen at hcb
                    go_wp2_with fail
                    go_loop [5] (fun j => ∃ q : Nat, q ≤ c.codes.length ∧ j = .int .i64 q ∧ Hid (∀ (i : Nat) (n : Int), i < q → c.codes[i]? = some n → inB n 1 20 = true)) (fun j => c.codes.length - (intOf j).toNat)
                    case atStart => exact ⟨0, Nat.zero_le _, rfl, hide (fun i n hi => absurd hi (Nat.not_lt_zero i))⟩
                    case round =>
                      obtain ⟨q, hq, rfl, hp2⟩ := hrel
                      by_cases hlq : q < c.codes.length
                      · obtain ⟨bb, oo, hca, _, hcc⟩ := rd_int RD.out (by intro h; rw [h] at hlq; simp at hlq)
                        have hg := List.getElem?_eq_getElem hlq
                        have n0 := hcc q _ hg
                        generalize c.codes[q] = n at *
                        rw [hca] at e1
                        clear hca hcc
                        have HGN := hide hg; clear hg
                        cases hn : inB n 1 20
                        · go_wp2_with (go_at_call 80; refine (l20Code_is hn _).mono ?_; rintro e w2 ⟨rfl, rfl⟩)
                          go_ret
                          exact ⟨ret_bool (riseB_no hlt (rise_bad HG.out HO.out)).symm, B1⟩
                        · go_wp2_with (go_at_call 80; refine (l20Code_is hn _).mono ?_; rintro e w2 ⟨rfl, rfl⟩)
                          go_round
                          case rel => exact ⟨q + 1, by omega, by go_num, hide (upto_code hp2.out HGN.out hn)⟩
                          case measure => simp [intOf]; omega
                      · rw [codes_all (by omega) hp2.out] at hlate; cases hlate
              have HLT := hide hlate; clear hlate
              have HO := hide (show patC c = true by simp [patC, h0, h1, h2, HLT.out])
              rcases Nat.eq_zero_or_pos k with rfl | hk0
              · have HZ := True.intro
                simp only [Nat.zero_mul, Nat.add_zero] at c0 c1 c2
                go_wp2_with fail
                refine wp_region_after (by kernel_rfl) (by kernel_rfl) ?_
                repeat (go_big_quiet_step ((first | (go_at_call 63; exact Calls.after_same (l1In_is (by assumption) _)))))
                refine wpQuiet_nil ?_
                rintro w1 ⟨⟨_, hb1⟩, rfl⟩
                go_wp2_with fail
                have HR := hide (upto_step hp.out (rise_first (lt := patCLt) HG.out HO.out))
                obtain ⟨e0, e1, e2⟩ := E ⟨w1, hb1⟩
                have B1 : Below w.heap.size w w1 := below_next hbel hb1 (Nat.le_refl _)
                have RD := hide (Rd.later (Rd.later hdc.out ((Below.refl _ _).alloc (Nat.le_refl _) _)) hb1)
                have hcb : c.codes.length ≤ maxLen := hcl.out
                unfold maxLen at hcb
                go_wp2_with fail
                go_loop [5] (fun j => ∃ q : Nat, q ≤ c.codes.length ∧ j = .int .i64 q ∧ Hid (∀ (i : Nat) (n : Int), i < q → c.codes[i]? = some n → inB n 1 20 = true)) (fun j => c.codes.length - (intOf j).toNat)
                case atStart => exact ⟨0, Nat.zero_le _, rfl, hide (fun i n hi => absurd hi (Nat.not_lt_zero i))⟩
                case round =>
                  obtain ⟨q, hq, rfl, hp2⟩ := hrel
                  by_cases hlq : q < c.codes.length
                  · obtain ⟨bb, oo, hca, _, hcc⟩ := rd_int RD.out (by intro h; rw [h] at hlq; simp at hlq)
                    have hg := List.getElem?_eq_getElem hlq
                    have n0 := hcc q _ hg
                    generalize c.codes[q] = n at *
                    rw [hca] at e1
                    clear hca hcc
                    have HGN := hide hg; clear hg
                    cases hn : inB n 1 20
                    · exact (codes_no HLT.out HGN.out hn).elim
                    · go_wp2_with (go_at_call 80; refine (l20Code_is hn _).mono ?_; rintro e w2 ⟨rfl, rfl⟩)
                      go_round
                      case rel => exact ⟨q + 1, by omega, by go_num, hide (upto_code hp2.out HGN.out hn)⟩
                      case measure => simp [intOf]; omega
                  · go_wp2_with fail
                    go_roundw
                    case rel => exact ⟨0 + 1, by omega, by go_num, HR, B1⟩
                    case measure => simp [intOf]; omega
              · have hgd := List.getElem?_eq_getElem (show k - 1 < L.length by omega)
                obtain ⟨p0, p1, p2⟩ := hc (k - 1) _ hgd
                generalize L[k - 1] = d at *
                have HD := hide hgd; clear hgd
                replace p0 := after_alloc (.cells #[.int .i64 c.fault, .slice c.ca c.codes.length c.cc, .int .i64 c.within] 62) (below_cell hbel p0)
                replace p1 := after_alloc (.cells #[.int .i64 c.fault, .slice c.ca c.codes.length c.cc, .int .i64 c.within] 62) (below_cell hbel p1)
                replace p2 := after_alloc (.cells #[.int .i64 c.fault, .slice c.ca c.codes.length c.cc, .int .i64 c.within] 62) (below_cell hbel p2)
                have hk1 : (0 : Int) < (k : Int) := by omega
                cases hlow : patCLt d c
                · have HL := hide hlow
                  have hkey : ¬ d.fault < c.fault := by simpa [patCLt] using hlow
                  have hb0 : decide (c.fault ≤ d.fault) = true := by simp; omega
                  clear hlow
                  go_wp2_with fail
                  refine wp_region_after (by kernel_rfl) (by kernel_rfl) ?_
                  repeat (go_big_quiet_step ((first | (go_at_call 63; exact Calls.after_same (l1In_is (by assumption) _)))))
                  refine wpQuiet_nil ?_
                  rintro w1 ⟨⟨_, hb1⟩, rfl⟩
                  go_wp2_with fail
                  go_ret
                  exact ⟨ret_bool (riseB_no hlt (rise_low HG.out HD.out hk0 HL.out)).symm, below_next hbel hb1 (Nat.le_refl _)⟩
                · have HL := hide hlow
                  have hkey : d.fault < c.fault := by simpa [patCLt] using hlow
                  have hb0 : decide (c.fault ≤ d.fault) = false := by simp; omega
                  clear hlow
                  go_wp2_with fail
                  refine wp_region_after (by kernel_rfl) (by kernel_rfl) ?_
                  repeat (go_big_quiet_step ((first | (go_at_call 63; exact Calls.after_same (l1In_is (by assumption) _)))))
                  refine wpQuiet_nil ?_
                  rintro w1 ⟨⟨_, hb1⟩, rfl⟩
                  go_wp2_with fail
                  have HR := hide (upto_step hp.out (rise_next HG.out HD.out HO.out HL.out))
                  obtain ⟨e0, e1, e2⟩ := E ⟨w1, hb1⟩
                  have B1 : Below w.heap.size w w1 := below_next hbel hb1 (Nat.le_refl _)
                  have RD := hide (Rd.later (Rd.later hdc.out ((Below.refl _ _).alloc (Nat.le_refl _) _)) hb1)
                  have hcb : c.codes.length ≤ maxLen := hcl.out
                  unfold maxLen at hcb
                  go_wp2_with fail
                  go_loop [5] (fun j => ∃ q : Nat, q ≤ c.codes.length ∧ j = .int .i64 q ∧ Hid (∀ (i : Nat) (n : Int), i < q → c.codes[i]? = some n → inB n 1 20 = true)) (fun j => c.codes.length - (intOf j).toNat)
                  case atStart => exact ⟨0, Nat.zero_le _, rfl, hide (fun i n hi => absurd hi (Nat.not_lt_zero i))⟩
                  case round =>
                    obtain ⟨q, hq, rfl, hp2⟩ := hrel
                    by_cases hlq : q < c.codes.length
                    · obtain ⟨bb, oo, hca, _, hcc⟩ := rd_int RD.out (by intro h; rw [h] at hlq; simp at hlq)
                      have hg := List.getElem?_eq_getElem hlq
                      have n0 := hcc q _ hg
                      generalize c.codes[q] = n at *
                      rw [hca] at e1
                      clear hca hcc
                      have HGN := hide hg; clear hg
                      cases hn : inB n 1 20
                      · exact (codes_no HLT.out HGN.out hn).elim
                      · go_wp2_with (go_at_call 80; refine (l20Code_is hn _).mono ?_; rintro e w2 ⟨rfl, rfl⟩)
                        go_round
                        case rel => exact ⟨q + 1, by omega, by go_num, hide (upto_code hp2.out HGN.out hn)⟩
                        case measure => simp [intOf]; omega
                    · go_wp2_with fail
                      go_roundw
                      case rel => exact ⟨k + 1, by omega, by go_num, HR, B1⟩
                      case measure => simp [intOf]; omega
      · go_wp2_with fail
        go_ret
        exact ⟨ret_bool (by rw [riseB_all (by omega) hp.out]; simp; omega), hbel⟩

theorem ArePatterns_is {L : List Pattern} {P : List Pat} {b : Bool} (hP : Pattern.pats L = P) (h : patsB P = b) (A : Option Addr) (cap : Nat) (w : World) (hr : Rd Pattern.enc 3 w.heap.size w A L) (hok : ∀ c ∈ L, c.Ok) (hl : L.length ≤ maxLen) (hd : Pattern.DeepP w.heap.size w L) :
    Calls Try.prog 22 #[.slice A L.length cap] w fun e w' => e = .returned (.bool b) ∧ Below w.heap.size w w' := by
  rw [← h, ← hP, patsB_is]; exact ArePatterns_c L A cap w hr hok hl hd
theorem l20Patterns_is {L : List Pattern} {P : List Pat} {b : Bool} (hP : Pattern.pats L = P) (h : patsB P = b) (A : Option Addr) (cap : Nat) (w : World) (hr : Rd Pattern.enc 3 w.heap.size w A L) (hok : ∀ c ∈ L, c.Ok) (hl : L.length ≤ maxLen) (hd : Pattern.DeepP w.heap.size w L) :
    Calls Try.prog 59 #[.slice A L.length cap] w fun e w' => e = .returned (.bool b) ∧ Below w.heap.size w w' := by
  rw [← h, ← hP, patsB_is]; exact l20Patterns_c L A cap w hr hok hl hd
theorem ArePatterns_spec {L : List Pattern} {P : List Pat} (hP : Pattern.pats L = P) (A : Option Addr) (cap : Nat) (w : World) (hr : Rd Pattern.enc 3 w.heap.size w A L) (hok : ∀ c ∈ L, c.Ok) (hl : L.length ≤ maxLen) (hd : Pattern.DeepP w.heap.size w L) :
    Calls Try.prog 20 #[.slice A L.length cap] w fun e w' => e = .returned (.bool (patsB P)) ∧ Below w.heap.size w w' := by
  go_enter Try.func20, Try.ntmps20
  go_wp2_with (go_at_call 59; refine (l20Patterns_is hP rfl A cap _ hr hok hl hd).mono ?_; rintro e w' ⟨rfl, hb⟩)
  go_ret
  exact ⟨rfl, hb⟩
end Go.Proofs.Ytmnepaedkilnoaa
