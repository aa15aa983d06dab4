/- Consumers: whether they are consumers; the program's function and the reference's. Slices are as the reader gives them. -/
import Derived.Test.YtafefnpmgpmjpaaLibConsumer
import Derived.Test.YtafefnpmgpmjpaaGrid
namespace Go.Proofs.Ytafefnpmgpmjpaa
open Go Go.RowKit
set_option linter.unusedVariables false
def consOne (c : Consumer) : Bool := wordB c.name && (inB c.watts 1 1000000 && inB c.rank 1 9)
def sameN (name : ByteArray) (d : Consumer) : Bool := d.name.toList == name.toList
def conAt (L : List Consumer) (i : Nat) : Bool := match L[i]? with
  | none => true
  | some c => consOne c && !((L.take i).any (sameN c.name))
def consB (L : List Consumer) : Bool := allAt (conAt L) L.length && decide (L.length ≤ 8)
theorem cons_no {L : List Consumer} {k : Nat} (h : k < L.length) (hp : conAt L k = false) : consB L = false := by simp [consB, allAt_no h hp]
theorem cons_all {L : List Consumer} {k : Nat} (h : L.length ≤ k) (hp : ∀ j, j < k → conAt L j = true) : consB L = decide (L.length ≤ 8) := by simp [consB, allAt_yes h hp]
theorem cons_long {L : List Consumer} (h : 8 < L.length) : consB L = false := by simp [consB]; intro _; omega
theorem con_bad {L : List Consumer} {k : Nat} {c : Consumer} (hk : L[k]? = some c) (h : consOne c = false) : conAt L k = false := by simp [conAt, hk, h]
theorem con_dup {L : List Consumer} {k : Nat} {c : Consumer} (hk : L[k]? = some c) (h : (L.take k).any (sameN c.name) = true) : conAt L k = false := by simp [conAt, hk, h]
theorem con_ok {L : List Consumer} {k : Nat} {c : Consumer} (hk : L[k]? = some c) (h1 : consOne c = true) (h : (L.take k).any (sameN c.name) = false) : conAt L k = true := by simp [conAt, hk, h1, h]
theorem consB_len {L : List Consumer} (h : consB L = true) : L.length ≤ 8 := by simp only [consB, Bool.and_eq_true, decide_eq_true_eq] at h; exact h.2
theorem consB_one {L : List Consumer} (h : consB L = true) {k : Nat} {c : Consumer} (hk : L[k]? = some c) : (1 ≤ c.watts ∧ c.watts ≤ 1000000) ∧ (1 ≤ c.rank ∧ c.rank ≤ 9) ∧ wordB c.name = true := by
  simp only [consB, Bool.and_eq_true] at h
  have h2 := allAt_at h.1 (List.getElem?_eq_some_iff.1 hk).1
  simp only [conAt, hk, Bool.and_eq_true, consOne, inB_iff] at h2
  exact ⟨h2.1.2.1, h2.1.2.2, h2.1.1⟩
theorem rd_take {α : Type} {enc : α → List Value} {sz B : Nat} {w : World} {A : Option Addr} {L : List α} (h : Rd enc sz B w A L) (k : Nat) : Rd enc sz B w A (L.take k) := by
  rcases h with h | ⟨b, o, hA, hb, hc⟩
  · exact .inl (by rw [h, List.take_nil])
  · exact .inr ⟨b, o, hA, hb, fun j c hj => hc j c (by rw [List.getElem?_take] at hj; split at hj <;> simp_all)⟩
theorem own_cap {α : Type} {enc : α → List Value} {sz T lo n cap : Nat} {w : World} {A : Option Addr} {L : List α} (h : Own enc sz T lo w (.slice A n cap) L) : n ≤ cap := by
  rcases h.2 with ⟨hv, _⟩ | ⟨g, c, cur, hv, _, _, h4, _⟩
  · cases hv; exact Nat.le_refl _
  · cases hv; exact h4
theorem name_pred (name : ByteArray) (L : List Consumer) (w : World) (B : Nat) (hc : w.cell? ⟨B, 0, none⟩ = some (.string name)) : Consumer.Pred 79 #[.pointer (some ⟨B, 0, none⟩)] (sameN name) L w := by
  refine ⟨entersF Try.func79 (by kernel_rfl) rfl, fun W c _ hb => ?_⟩
  have hc1 := below_cell hb hc
  have hc2 : (W.alloc (.cells #[.string c.name, .int .i64 c.watts, .int .i64 c.rank] 65)).cell? ⟨B, 0, none⟩ = some (.string name) := below_cell ((Below.refl _ _).alloc (Nat.le_refl _) _) hc1
  show Calls Try.prog 79 #[.agg #[.string c.name, .int .i64 c.watts, .int .i64 c.rank], .pointer (some ⟨B, 0, none⟩)] W _
  go_enter Try.func79, Try.ntmps79
  go_wp2_with fail
  go_ret
  exact ⟨rfl, (Below.refl _ _).alloc (Nat.le_refl _) _⟩
theorem Consumer.ContainsFunc_n {n : Nat} {b : Bool} (g : Nat) (caps : Array Value) (p : Consumer → Bool) (L : List Consumer) (hn : L.length = n) (hb : L.any p = b) (A : Option Addr) (cap : Nat) (w : World) (hr : Rd Consumer.enc 3 w.heap.size w A L) (hl : L.length ≤ maxLen) (hp : Consumer.Pred g caps p L w) :
    Calls Try.prog 78 #[.slice A n cap, .func (.func g) #[] caps] w fun e w' => e = .returned (.bool b) ∧ Below w.heap.size w w' := by
  subst hn; subst hb; exact Consumer.ContainsFunc_any g caps p L A cap w hr hl hp
theorem l18Watts_any (n : Int) (w : World) : Calls Try.prog 81 #[.int .i64 n] w fun e w' => e = .returned (.bool (inB n 1 1000000)) ∧ w = w' := by
  go_enter Try.func81, Try.ntmps81
  go_wp2_with (go_at_call 58; refine (l1In_any _ _ _ _).mono ?_; rintro e w' ⟨rfl, rfl⟩)
  go_ret
  exact ⟨rfl, rfl⟩
theorem l18Watts_is {n : Int} {b : Bool} (h : inB n 1 1000000 = b) (w : World) : Calls Try.prog 81 #[.int .i64 n] w fun e w' => e = .returned (.bool b) ∧ w = w' := h ▸ l18Watts_any n w

set_option maxRecDepth 100000 in
set_option maxHeartbeats 2000000 in
theorem AreConsumers_any (L : List Consumer) (A : Option Addr) (cap : Nat) (w : World) (hr : Rd Consumer.enc 3 w.heap.size w A L) (hok : ∀ c ∈ L, c.Ok) (hl : L.length ≤ maxLen) (hcap : L.length ≤ cap) :
    Calls Try.prog 42 #[.slice A L.length cap] w fun e w' => e = .returned (.bool (consB L)) ∧ Below w.heap.size w w' := by
  unfold maxLen at hl
  go_enter Try.func42, Try.ntmps42
  go_wp2_with fail
  go_loopw [7] (fun i wr => ∃ k : Nat, k ≤ L.length ∧ i = .int .i64 k ∧ Hid (∀ j, j < k → conAt L j = true) ∧ Below w.heap.size w wr) (fun i _ => L.length - (intOf i).toNat)
  case atStart => exact ⟨0, Nat.zero_le _, rfl, hide (fun j hj => absurd hj (Nat.not_lt_zero j)), Below.refl _ _⟩
  case round =>
    obtain ⟨k, hk, rfl, hp, hbel⟩ := hrel
    by_cases hlt : k < L.length
    · obtain ⟨b, o, rfl, hb, hc⟩ := Consumer.rd_at hr (by intro h; subst h; simp at hlt)
      have hget := List.getElem?_eq_getElem hlt
      obtain ⟨x0, x1, x2⟩ := hc k _ hget
      have hokc := hide (hok L[k] (List.getElem_mem hlt))
      generalize L[k] = c at *
      have HG := hide hget; clear hget
      replace x0 := below_cell hbel x0
      replace x1 := below_cell hbel x1
      replace x2 := below_cell hbel x2
      have hki : (k : Int) < (L.length : Int) := by omega
      have hkc : k ≤ cap := by omega
      have hba : Below w.heap.size w (wr.alloc (.cells #[.string c.name, .int .i64 c.watts, .int .i64 c.rank] 65)) := hbel.alloc hbel.size _
      have RT := hide ((rd_take hr k).later hba)
      have PR := hide (name_pred c.name (L.take k) (wr.alloc (.cells #[.string c.name, .int .i64 c.watts, .int .i64 c.rank] 65)) wr.heap.size (CF.new wr #[.string c.name, .int .i64 c.watts, .int .i64 c.rank] 65 wr.heap.size 0 _ rfl rfl).1)
      have HLN := hide (show (L.take k).length = k by rw [List.length_take]; omega)
      have hlm : (L.take k).length ≤ maxLen := by rw [HLN.out]; unfold maxLen; omega
      have HLM := hide hlm; clear hlm hc
      cases h0 : wordB c.name
      · have HO := hide (show consOne c = false by simp [consOne, h0])
        go_wp2_with (first | (go_at_call 77; refine (isWord_is h0 _ hokc.out).mono ?_; rintro e w1 ⟨rfl, rfl⟩) | (go_at_call 60; refine (within_is (by assumption) _).mono ?_; rintro e w2 ⟨rfl, rfl⟩) | (go_at_call 78; refine (Consumer.ContainsFunc_n _ _ (sameN c.name) (L.take k) HLN.out h3 _ _ _ RT.out HLM.out PR.out).mono ?_; rintro e w3 ⟨rfl, hb3⟩))
        go_ret
        exact ⟨ret_bool (cons_no hlt (con_bad HG.out HO.out)).symm, hba⟩
      cases h1 : inB c.watts 1 1000000
      · have HO := hide (show consOne c = false by simp [consOne, h0, h1])
        go_wp2_with (first | (go_at_call 77; refine (isWord_is h0 _ hokc.out).mono ?_; rintro e w1 ⟨rfl, rfl⟩) | (go_at_call 60; refine (within_is (by assumption) _).mono ?_; rintro e w2 ⟨rfl, rfl⟩) | (go_at_call 78; refine (Consumer.ContainsFunc_n _ _ (sameN c.name) (L.take k) HLN.out h3 _ _ _ RT.out HLM.out PR.out).mono ?_; rintro e w3 ⟨rfl, hb3⟩))
        go_ret
        exact ⟨ret_bool (cons_no hlt (con_bad HG.out HO.out)).symm, hba⟩
      cases h2 : inB c.rank 1 9
      · have HO := hide (show consOne c = false by simp [consOne, h0, h1, h2])
        go_wp2_with (first | (go_at_call 77; refine (isWord_is h0 _ hokc.out).mono ?_; rintro e w1 ⟨rfl, rfl⟩) | (go_at_call 60; refine (within_is (by assumption) _).mono ?_; rintro e w2 ⟨rfl, rfl⟩) | (go_at_call 78; refine (Consumer.ContainsFunc_n _ _ (sameN c.name) (L.take k) HLN.out h3 _ _ _ RT.out HLM.out PR.out).mono ?_; rintro e w3 ⟨rfl, hb3⟩))
        go_ret
        exact ⟨ret_bool (cons_no hlt (con_bad HG.out HO.out)).symm, hba⟩
      have HO := hide (show consOne c = true by simp [consOne, h0, h1, h2])
      cases h3 : (L.take k).any (sameN c.name)
      · have H3 := hide h3
        go_wp2_with (first | (go_at_call 77; refine (isWord_is h0 _ hokc.out).mono ?_; rintro e w1 ⟨rfl, rfl⟩) | (go_at_call 60; refine (within_is (by assumption) _).mono ?_; rintro e w2 ⟨rfl, rfl⟩) | (go_at_call 78; refine (Consumer.ContainsFunc_n _ _ (sameN c.name) (L.take k) HLN.out h3 _ _ _ RT.out HLM.out PR.out).mono ?_; rintro e w3 ⟨rfl, hb3⟩))
        go_roundw
        case rel => exact ⟨k + 1, by omega, by go_num, hide (upto_step hp.out (con_ok HG.out HO.out H3.out)), below_step hba hb3 (Nat.le_refl _)⟩
        case measure => simp [intOf]; omega
      · have H3 := hide h3
        go_wp2_with (first | (go_at_call 77; refine (isWord_is h0 _ hokc.out).mono ?_; rintro e w1 ⟨rfl, rfl⟩) | (go_at_call 60; refine (within_is (by assumption) _).mono ?_; rintro e w2 ⟨rfl, rfl⟩) | (go_at_call 78; refine (Consumer.ContainsFunc_n _ _ (sameN c.name) (L.take k) HLN.out h3 _ _ _ RT.out HLM.out PR.out).mono ?_; rintro e w3 ⟨rfl, hb3⟩))
        go_ret
        exact ⟨ret_bool (cons_no hlt (con_dup HG.out H3.out)).symm, below_step hba hb3 (Nat.le_refl _)⟩
    · go_wp2_with fail
      go_ret
      exact ⟨ret_bool (by rw [cons_all (by omega) hp.out] <;> first | rfl | (simp; done) | (simp; omega)), hbel⟩
theorem AreConsumers_is {L : List Consumer} {b : Bool} (h : consB L = b) (A : Option Addr) (cap : Nat) (w : World) (hr : Rd Consumer.enc 3 w.heap.size w A L) (hok : ∀ c ∈ L, c.Ok) (hl : L.length ≤ maxLen) (hcap : L.length ≤ cap) :
    Calls Try.prog 42 #[.slice A L.length cap] w fun e w' => e = .returned (.bool b) ∧ Below w.heap.size w w' := h ▸ AreConsumers_any L A cap w hr hok hl hcap
set_option maxRecDepth 100000 in
set_option maxHeartbeats 2000000 in
theorem l18Good_any (L : List Consumer) (A : Option Addr) (cap : Nat) (w : World) (hr : Rd Consumer.enc 3 w.heap.size w A L) (hok : ∀ c ∈ L, c.Ok) (hl : L.length ≤ maxLen) :
    Calls Try.prog 44 #[.slice A L.length cap] w fun e w' => e = .returned (.bool (consB L)) ∧ Below w.heap.size w w' := by
  unfold maxLen at hl
  go_enter Try.func44, Try.ntmps44
  go_wp2_with fail
  go_loopw [3] (fun i wr => ∃ k : Nat, k ≤ L.length ∧ k ≤ 9 ∧ i = .int .i64 k ∧ Hid (∀ j, j < k → conAt L j = true) ∧ Below w.heap.size w wr) (fun i _ => L.length - (intOf i).toNat)
  case atStart => exact ⟨0, Nat.zero_le _, Nat.zero_le _, rfl, hide (fun j hj => absurd hj (Nat.not_lt_zero j)), Below.refl _ _⟩
  case round =>
    obtain ⟨k, hk, hk9, rfl, hp, hbel⟩ := hrel
    by_cases hlt : k < L.length
    · by_cases h8 : k ≤ 8
      · obtain ⟨b, o, rfl, hb, hc⟩ := Consumer.rd_at hr (by intro h; subst h; simp at hlt)
        have hget := List.getElem?_eq_getElem hlt
        obtain ⟨x0, x1, x2⟩ := hc k _ hget
        have hokc := hide (hok L[k] (List.getElem_mem hlt))
        generalize L[k] = c at *
        have HG := hide hget; clear hget
        have HX0 := x0
        replace x0 := below_cell hbel x0
        replace x1 := below_cell hbel x1
        replace x2 := below_cell hbel x2
        have hki : (k : Int) < (L.length : Int) := by omega
        have hk8 : (k : Int) ≤ 8 := by omega
        cases h0 : wordB c.name
        · have HO := hide (show consOne c = false by simp [consOne, h0])
          go_wp2_with (first | (go_at_call 80; refine (l2Word_is h0 _ hokc.out).mono ?_; rintro e w1 ⟨rfl, rfl⟩) | (go_at_call 81; refine (l18Watts_is (by assumption) _).mono ?_; rintro e w2 ⟨rfl, rfl⟩) | (go_at_call 58; refine (l1In_is (by assumption) _).mono ?_; rintro e w2 ⟨rfl, rfl⟩))
          go_ret
          exact ⟨ret_bool (cons_no hlt (con_bad HG.out HO.out)).symm, hbel⟩
        cases h1 : inB c.watts 1 1000000
        · have HO := hide (show consOne c = false by simp [consOne, h0, h1])
          go_wp2_with (first | (go_at_call 80; refine (l2Word_is h0 _ hokc.out).mono ?_; rintro e w1 ⟨rfl, rfl⟩) | (go_at_call 81; refine (l18Watts_is (by assumption) _).mono ?_; rintro e w2 ⟨rfl, rfl⟩) | (go_at_call 58; refine (l1In_is (by assumption) _).mono ?_; rintro e w2 ⟨rfl, rfl⟩))
          go_ret
          exact ⟨ret_bool (cons_no hlt (con_bad HG.out HO.out)).symm, hbel⟩
        cases h2 : inB c.rank 1 9
        · have HO := hide (show consOne c = false by simp [consOne, h0, h1, h2])
          go_wp2_with (first | (go_at_call 80; refine (l2Word_is h0 _ hokc.out).mono ?_; rintro e w1 ⟨rfl, rfl⟩) | (go_at_call 81; refine (l18Watts_is (by assumption) _).mono ?_; rintro e w2 ⟨rfl, rfl⟩) | (go_at_call 58; refine (l1In_is (by assumption) _).mono ?_; rintro e w2 ⟨rfl, rfl⟩))
          go_ret
          exact ⟨ret_bool (cons_no hlt (con_bad HG.out HO.out)).symm, hbel⟩
        have HO := hide (show consOne c = true by simp [consOne, h0, h1, h2])
        go_wp2_with (first | (go_at_call 80; refine (l2Word_is h0 _ hokc.out).mono ?_; rintro e w1 ⟨rfl, rfl⟩) | (go_at_call 81; refine (l18Watts_is (by assumption) _).mono ?_; rintro e w2 ⟨rfl, rfl⟩) | (go_at_call 58; refine (l1In_is (by assumption) _).mono ?_; rintro e w2 ⟨rfl, rfl⟩))
        obtain ⟨wo, rfl⟩ : ∃ wo : World, wo = wr := ⟨_, rfl⟩
        go_loopw [4] (fun i wr => ∃ j : Nat, j ≤ k ∧ i = .int .i64 j ∧ Hid (∀ (i : Nat) (d : Consumer), i < j → L[i]? = some d → sameN c.name d = false) ∧ Below w.heap.size w wr) (fun i _ => k - (intOf i).toNat)
        case atStart => exact ⟨0, Nat.zero_le _, rfl, hide (fun i d hi => absurd hi (Nat.not_lt_zero i)), hbel⟩
        case round =>
          obtain ⟨j, hj, rfl, hq, hbel2⟩ := hrel
          by_cases hjk : j < k
          · have hgj := List.getElem?_eq_getElem (show j < L.length by omega)
            obtain ⟨y0, _⟩ := hc j _ hgj
            generalize L[j] = d at *
            have HD := hide hgj; clear hgj
            have u0 := after_cell (below_cell hbel2 y0)
            have u1 := after_cell (below_cell hbel2 HX0)
            have hji : (j : Int) < (L.length : Int) := by omega
            have hjk' : (j : Int) < (k : Int) := by omega
            cases hs : sameN c.name d
            · have hb0 : (d.name.toList == c.name.toList) = false := hs
              have HS := hide hs; clear hs
              go_wp2_with fail
              refine wp_region_after (by kernel_rfl) (by kernel_rfl) ?_
              repeat (go_big_quiet_step (fail))
              refine wpQuiet_nil ?_
              rintro w2 ⟨⟨_, hb2⟩, rfl⟩
              go_wp2_with fail
              go_roundw
              case rel => exact ⟨j + 1, by omega, by go_num, hide (no_step hq.out HD.out HS.out), below_step hbel2 hb2 (Nat.le_refl _)⟩
              case measure => simp [intOf]; omega
            · have hb0 : (d.name.toList == c.name.toList) = true := hs
              have HS := hide hs; clear hs
              go_wp2_with fail
              refine wp_region_after (by kernel_rfl) (by kernel_rfl) ?_
              repeat (go_big_quiet_step (fail))
              refine wpQuiet_nil ?_
              rintro w2 ⟨⟨_, hb2⟩, rfl⟩
              go_wp2_with fail
              go_ret
              refine ⟨ret_bool (cons_no hlt (con_dup HG.out ?_)).symm, below_step hbel2 hb2 (Nat.le_refl _)⟩
              rw [List.any_eq_true]
              exact ⟨d, List.mem_of_getElem? (i := j) (by rw [List.getElem?_take, if_pos hjk]; exact HD.out), HS.out⟩
          · have HN := hide (show (L.take k).any (sameN c.name) = false by
              rw [List.any_eq_false]
              intro x hx
              obtain ⟨i, hi, rfl⟩ := List.mem_iff_getElem.1 hx
              have hi2 : i < k ∧ i < L.length := by rw [List.length_take] at hi; omega
              rw [List.getElem_take]
              simpa using hq.out i _ (by omega) (List.getElem?_eq_getElem hi2.2))
            go_wp2_with fail
            go_roundw
            case rel => exact ⟨k + 1, by omega, by omega, by go_num, hide (upto_step hp.out (con_ok HG.out HO.out HN.out)), hbel2⟩
            case measure => simp [intOf]; omega
      · have hk8 : ¬ (k : Int) ≤ 8 := by omega
        go_wp2_with fail
        go_ret
        exact ⟨ret_bool (by rw [cons_long (by omega)]; simp; omega), hbel⟩
    · go_wp2_with fail
      go_ret
      exact ⟨ret_bool (by rw [cons_all (by omega) hp.out] <;> first | rfl | (simp; done) | (simp; omega)), hbel⟩
theorem l18Good_is {L : List Consumer} {b : Bool} (h : consB L = b) (A : Option Addr) (cap : Nat) (w : World) (hr : Rd Consumer.enc 3 w.heap.size w A L) (hok : ∀ c ∈ L, c.Ok) (hl : L.length ≤ maxLen) :
    Calls Try.prog 44 #[.slice A L.length cap] w fun e w' => e = .returned (.bool b) ∧ Below w.heap.size w w' := h ▸ l18Good_any L A cap w hr hok hl
end Go.Proofs.Ytafefnpmgpmjpaa
