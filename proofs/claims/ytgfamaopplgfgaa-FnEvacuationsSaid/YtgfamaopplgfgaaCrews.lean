/- Crews and people: whether they are valid; the program's functions and the reference's. Slices are as the reader gives them. -/
import Derived.Test.YtgfamaopplgfgaaLine
import Derived.Test.YtgfamaopplgfgaaLibCrew
import Derived.Test.YtgfamaopplgfgaaAllIn
namespace Go.Proofs.Ytgfamaopplgfgaa
open Go Go.RowKit
set_option linter.unusedVariables false
def crewP (n : Int) (c : Crew) : Bool := inB c.support 0 (n - 1) && (inB c.pace 1 20 && inB c.each 1 600)
def badC (n : Int) (c : Crew) : Bool := !crewP n c
def crewsB (line : List Support) (crews : List Crew) : Bool := shortB line && (inB crews.length 1 3 && !(crews.any (badC line.length)))
def peopleB (line : List Support) (people : List Int) : Bool := decide ((people.length : Int) = line.length - 1) && people.all fun n => inB n 0 60
theorem crew_pred (L : List Support) (A : Option Addr) (cap : Nat) (C : List Crew) (w : World) (B : Nat) (hl : L.length ≤ 1000000) (hc : w.cell? ⟨B, 0, none⟩ = some (.slice A L.length cap)) :
    Crew.Pred 63 #[.pointer (some ⟨B, 0, none⟩)] (badC L.length) C w := by
  refine ⟨entersF Try.func63 (by kernel_rfl) rfl, fun W c _ hb => ?_⟩
  have hc1 := below_cell hb hc
  have hc2 : (W.alloc (.cells #[.int .i64 c.support, .int .i64 c.pace, .int .i64 c.each] 67)).cell? ⟨B, 0, none⟩ = some (.slice A L.length cap) := below_cell ((Below.refl _ _).alloc (Nat.le_refl _) _) hc1
  clear hc1 hc
  show Calls Try.prog 63 #[.agg #[.int .i64 c.support, .int .i64 c.pace, .int .i64 c.each], .pointer (some ⟨B, 0, none⟩)] W _
  cases h0 : inB c.support 0 ((L.length : Int) - 1)
  · go_enter Try.func63, Try.ntmps63
    go_wp2_with (go_at_call 61; refine (within_is (by assumption) _).mono ?_; rintro e w' ⟨rfl, rfl⟩)
    go_ret
    exact ⟨ret_bool (by simp [badC, crewP, h0]), (Below.refl _ _).alloc (Nat.le_refl _) _⟩
  · cases h1 : inB c.pace 1 20
    · go_enter Try.func63, Try.ntmps63
      go_wp2_with (go_at_call 61; refine (within_is (by assumption) _).mono ?_; rintro e w' ⟨rfl, rfl⟩)
      go_ret
      exact ⟨ret_bool (by simp [badC, crewP, h1]), (Below.refl _ _).alloc (Nat.le_refl _) _⟩
    · cases h2 : inB c.each 1 600
      all_goals
        go_enter Try.func63, Try.ntmps63
        go_wp2_with (go_at_call 61; refine (within_is (by assumption) _).mono ?_; rintro e w' ⟨rfl, rfl⟩)
        go_ret
        exact ⟨ret_bool (by simp [badC, crewP, h0, h1, h2]), (Below.refl _ _).alloc (Nat.le_refl _) _⟩
theorem Crew.ContainsFunc_n {b : Bool} (g : Nat) (caps : Array Value) (p : Crew → Bool) (L : List Crew) (hb : L.any p = b) (A : Option Addr) (cap : Nat) (w : World) (hr : Rd Crew.enc 3 w.heap.size w A L) (hl : L.length ≤ maxLen) (hp : Crew.Pred g caps p L w) :
    Calls Try.prog 62 #[.slice A L.length cap, .func (.func g) #[] caps] w fun e w' => e = .returned (.bool b) ∧ Below w.heap.size w w' := by
  subst hb; exact Crew.ContainsFunc_any g caps p L A cap w hr hl hp
set_option maxHeartbeats 1000000 in
theorem AreCrews_any (L : List Support) (C : List Crew) (A0 A1 : Option Addr) (c0 c1 : Nat) (w : World) (r0 : Rd Support.enc 3 w.heap.size w A0 L) (ok0 : ∀ c ∈ L, c.Ok) (l0 : L.length ≤ maxLen) (r1 : Rd Crew.enc 3 w.heap.size w A1 C) (l1 : C.length ≤ maxLen) :
    Calls Try.prog 19 #[.slice A0 L.length c0, .slice A1 C.length c1] w fun e w' => e = .returned (.bool (crewsB L C)) ∧ Below w.heap.size w w' := by
  have hba : Below w.heap.size w (w.alloc (.cells #[.slice A0 L.length c0] 24)) := (Below.refl _ _).alloc (Nat.le_refl _) _
  have x0 : (w.alloc (.cells #[.slice A0 L.length c0] 24)).cell? ⟨w.heap.size, 0, none⟩ = some (.slice A0 L.length c0) := by simp
  cases h : shortB L
  · go_enter Try.func19, Try.ntmps19
    go_wp2_with (go_at_call 60; refine (isShortLine_is h _ _ _ (r0.later hba) ok0 l0).mono ?_; rintro e w1 ⟨rfl, hb1⟩)
    go_ret
    exact ⟨ret_bool (by simp [crewsB, h]), below_new' hb1⟩
  · have hlen := shortB_len h
    have H := hide h; clear h
    cases h2 : inB C.length 1 3
    · go_enter Try.func19, Try.ntmps19
      go_wp2_with (first | (go_at_call 60; refine (isShortLine_is H.out _ _ _ (r0.later hba) ok0 l0).mono ?_; rintro e w1 ⟨rfl, hb1⟩) | (go_at_call 61; refine (within_is h2 _).mono ?_; rintro e w2 ⟨rfl, rfl⟩))
      go_ret
      exact ⟨ret_bool (by simp [crewsB, h2]), below_new' hb1⟩
    · cases h3 : C.any (badC L.length)
      all_goals
        have H3 := hide h3; clear h3
        go_enter Try.func19, Try.ntmps19
        go_wp2_with (first | (go_at_call 60; refine (isShortLine_is H.out _ _ _ (r0.later hba) ok0 l0).mono ?_; rintro e w1 ⟨rfl, hb1⟩) | (go_at_call 61; refine (within_is h2 _).mono ?_; rintro e w2 ⟨rfl, rfl⟩) | (go_at_call 62; refine (Crew.ContainsFunc_n _ _ (badC L.length) C H3.out _ _ _ ((r1.later hba).later hb1) l1 (crew_pred L A0 c0 C _ w.heap.size (by omega) (below_cell hb1 x0))).mono ?_; rintro e w3 ⟨rfl, hb3⟩))
        go_ret
        exact ⟨ret_bool (by simp [crewsB, H.out, h2, H3.out]), below_step (below_new' hb1) hb3 (by have := hb1.size; simp at this; omega)⟩
set_option maxHeartbeats 1000000 in
theorem l19Crews_any (L : List Support) (C : List Crew) (A0 A1 : Option Addr) (c0 c1 : Nat) (w : World) (r0 : Rd Support.enc 3 w.heap.size w A0 L) (ok0 : ∀ c ∈ L, c.Ok) (l0 : L.length ≤ maxLen) (r1 : Rd Crew.enc 3 w.heap.size w A1 C) (l1 : C.length ≤ maxLen) :
    Calls Try.prog 64 #[.slice A0 L.length c0, .slice A1 C.length c1] w fun e w' => e = .returned (.bool (crewsB L C)) ∧ Below w.heap.size w w' := by
  have l0' := hide l0
  unfold maxLen at l0 l1
  go_enter Try.func64, Try.ntmps64
  go_wp2_with fail
  go_loop [5] (fun i => ∃ k : Nat, k ≤ C.length ∧ i = .int .i64 k ∧ Hid (∀ (j : Nat) (d : Crew), j < k → C[j]? = some d → badC L.length d = false)) (fun i => C.length - (intOf i).toNat)
  case atStart => exact ⟨0, Nat.zero_le _, rfl, hide (fun j d hj => absurd hj (Nat.not_lt_zero j))⟩
  case round =>
    obtain ⟨k, hk, rfl, hn⟩ := hrel
    by_cases hlt : k < C.length
    · obtain ⟨b, o, rfl, hb, hc⟩ := Crew.rd_at r1 (by intro h; subst h; simp at hlt)
      have hget := List.getElem?_eq_getElem hlt
      obtain ⟨x0, x1, x2⟩ := hc k _ hget
      generalize C[k] = c at *
      have HG := hide hget; clear hget hc r1
      have hki : (k : Int) < (C.length : Int) := by omega
      have bad : badC L.length c = true → crewsB L C = false := fun h => by
        have : C.any (badC L.length) = true := List.any_eq_true.2 ⟨c, List.mem_of_getElem? HG.out, h⟩
        simp [crewsB, this]
      have BAD := hide bad; clear bad
      cases h0 : inB c.support 0 ((L.length : Int) - 1)
      · go_wp2_with (go_at_call 73; refine (l1In_is (by assumption) _).mono ?_; rintro e w' ⟨rfl, rfl⟩)
        go_ret
        exact ⟨ret_bool (BAD.out (by simp [badC, crewP, h0])).symm, Below.refl _ _⟩
      · cases h1 : inB c.pace 1 20
        · go_wp2_with (go_at_call 73; refine (l1In_is (by assumption) _).mono ?_; rintro e w' ⟨rfl, rfl⟩)
          go_ret
          exact ⟨ret_bool (BAD.out (by simp [badC, crewP, h1])).symm, Below.refl _ _⟩
        · cases h2 : inB c.each 1 600
          · go_wp2_with (go_at_call 73; refine (l1In_is (by assumption) _).mono ?_; rintro e w' ⟨rfl, rfl⟩)
            go_ret
            exact ⟨ret_bool (BAD.out (by simp [badC, crewP, h2])).symm, Below.refl _ _⟩
          · go_wp2_with (go_at_call 73; refine (l1In_is (by assumption) _).mono ?_; rintro e w' ⟨rfl, rfl⟩)
            go_round
            case rel => exact ⟨k + 1, by omega, by go_num, hide (no_step hn.out HG.out (by simp [badC, crewP, h0, h1, h2]))⟩
            case measure => simp [intOf]; omega
    · have HA := hide (show C.any (badC L.length) = false by
        rw [List.any_eq_false]
        intro x hx
        obtain ⟨j, hj, rfl⟩ := List.mem_iff_getElem.1 hx
        simpa using hn.out j _ (by omega) (List.getElem?_eq_getElem hj))
      cases h : shortB L
      · go_wp2_with (go_at_call 92; refine (l19Line_is h _ _ _ r0 ok0 l0'.out).mono ?_; rintro e w1 ⟨rfl, hb1⟩)
        go_ret
        exact ⟨ret_bool (by simp [crewsB, h]), hb1⟩
      · cases h2 : inB C.length 1 3
        all_goals
          go_wp2_with (first | (go_at_call 92; refine (l19Line_is h _ _ _ r0 ok0 l0'.out).mono ?_; rintro e w1 ⟨rfl, hb1⟩) | (go_at_call 73; refine (l1In_is h2 _).mono ?_; rintro e w2 ⟨rfl, rfl⟩))
          go_ret
          exact ⟨ret_bool (by simp [crewsB, h, h2, HA.out]), hb1⟩
theorem AreCrews_spec (L : List Support) (C : List Crew) (A0 A1 : Option Addr) (c0 c1 : Nat) (w : World) (r0 : Rd Support.enc 3 w.heap.size w A0 L) (ok0 : ∀ c ∈ L, c.Ok) (l0 : L.length ≤ maxLen) (r1 : Rd Crew.enc 3 w.heap.size w A1 C) (l1 : C.length ≤ maxLen) :
    Calls Try.prog 20 #[.slice A0 L.length c0, .slice A1 C.length c1] w fun e w' => e = .returned (.bool (crewsB L C)) ∧ Below w.heap.size w w' := by
  go_enter Try.func20, Try.ntmps20
  go_wp2_with (go_at_call 64; refine (l19Crews_any L C A0 A1 c0 c1 _ r0 ok0 l0 r1 l1).mono ?_; rintro e w' ⟨rfl, hb⟩)
  go_ret
  exact ⟨rfl, hb⟩
/- people -/
theorem arePeople_any (L : List Support) (P : List Int) (A0 A1 : Option Addr) (c0 c1 : Nat) (w : World) (l0 : L.length ≤ maxLen) (r1 : Rd encI 1 w.heap.size w A1 P) (l1 : P.length ≤ maxLen) :
    Calls Try.prog 77 #[.slice A0 L.length c0, .slice A1 P.length c1] w fun e w' => e = .returned (.bool (peopleB L P)) ∧ w = w' := by
  have l1' := hide l1
  unfold maxLen at l0 l1
  by_cases h : (P.length : Int) = L.length - 1
  · have h' : ((P.length : Int) == (L.length : Int) - 1) = true := by simp [h]
    have H := hide h; clear h
    go_enter Try.func77, Try.ntmps77
    go_wp2_with (go_at_call 93; refine (allIn_any P 0 60 _ _ _ r1 l1'.out).mono ?_; rintro e w1 ⟨rfl, rfl⟩)
    go_ret
    exact ⟨ret_bool (by simp [peopleB, H.out]), rfl⟩
  · have h' : ((P.length : Int) == (L.length : Int) - 1) = false := by simp [h]
    have H := hide h; clear h
    go_enter Try.func77, Try.ntmps77
    go_wp2_with (go_at_call 93; refine (allIn_any P 0 60 _ _ _ r1 l1'.out).mono ?_; rintro e w1 ⟨rfl, rfl⟩)
    go_ret
    exact ⟨ret_bool (by simp [peopleB, H.out]), rfl⟩
theorem arePeople_is {L : List Support} {P : List Int} {b : Bool} (h : peopleB L P = b) (A0 A1 : Option Addr) (c0 c1 : Nat) (w : World) (l0 : L.length ≤ maxLen) (r1 : Rd encI 1 w.heap.size w A1 P) (l1 : P.length ≤ maxLen) :
    Calls Try.prog 77 #[.slice A0 L.length c0, .slice A1 P.length c1] w fun e w' => e = .returned (.bool b) ∧ w = w' := h ▸ arePeople_any L P A0 A1 c0 c1 w l0 r1 l1
set_option maxHeartbeats 1000000 in
theorem l19People_any (L : List Support) (P : List Int) (A0 A1 : Option Addr) (c0 c1 : Nat) (w : World) (r0 : Rd Support.enc 3 w.heap.size w A0 L) (ok0 : ∀ c ∈ L, c.Ok) (l0 : L.length ≤ maxLen) (r1 : Rd encI 1 w.heap.size w A1 P) (l1 : P.length ≤ maxLen) :
    Calls Try.prog 75 #[.slice A0 L.length c0, .slice A1 P.length c1] w fun e w' => e = .returned (.bool (shortB L && peopleB L P)) ∧ Below w.heap.size w w' := by
  have l0' := hide l0
  unfold maxLen at l0 l1
  go_enter Try.func75, Try.ntmps75
  go_wp2_with fail
  go_loop [5] (fun i => ∃ k : Nat, k ≤ P.length ∧ i = .int .i64 k ∧ Hid (∀ (i : Nat) (n : Int), i < k → P[i]? = some n → inB n 0 60 = true)) (fun i => P.length - (intOf i).toNat)
  case atStart => exact ⟨0, Nat.zero_le _, rfl, hide (fun i n hi => absurd hi (Nat.not_lt_zero i))⟩
  case round =>
    obtain ⟨k, hk, rfl, hp⟩ := hrel
    by_cases hlt : k < P.length
    · obtain ⟨b, o, rfl, _, hc⟩ := rd_int r1 (by intro h; rw [h] at hlt; simp at hlt)
      have hg := List.getElem?_eq_getElem hlt
      have c0 := hc k _ hg
      generalize P[k] = n at *
      have HG := hide hg; clear hg hc r1
      have hki : (k : Int) < (P.length : Int) := by omega
      cases hn : inB n 0 60
      · go_wp2_with (go_at_call 73; refine (l1In_is hn _).mono ?_; rintro e w1 ⟨rfl, rfl⟩)
        go_ret
        exact ⟨ret_bool (by simp only [peopleB, all_no HG.out hn, Bool.and_false]), Below.refl _ _⟩
      · go_wp2_with (go_at_call 73; refine (l1In_is hn _).mono ?_; rintro e w1 ⟨rfl, rfl⟩)
        go_round
        case rel => exact ⟨k + 1, by omega, by go_num, hide (all_step hp.out HG.out hn)⟩
        case measure => simp [intOf]; omega
    · have HA := hide (show (P.all fun n => inB n 0 60) = true from all_yes (by omega) hp.out)
      cases h : shortB L
      · go_wp2_with (go_at_call 92; refine (l19Line_is h _ _ _ r0 ok0 l0'.out).mono ?_; rintro e w1 ⟨rfl, hb1⟩)
        go_ret
        exact ⟨ret_bool (by simp [h]), hb1⟩
      · by_cases he : (P.length : Int) = L.length - 1
        · have h' : ((P.length : Int) == (L.length : Int) - 1) = true := by simp [he]
          have H := hide he; clear he
          go_wp2_with (go_at_call 92; refine (l19Line_is h _ _ _ r0 ok0 l0'.out).mono ?_; rintro e w1 ⟨rfl, hb1⟩)
          go_ret
          exact ⟨ret_bool (by simp only [peopleB, HA.out, Bool.and_true, decide_eq_true H.out, h]), hb1⟩
        · have h' : ((P.length : Int) == (L.length : Int) - 1) = false := by simp [he]
          have H := hide he; clear he
          go_wp2_with (go_at_call 92; refine (l19Line_is h _ _ _ r0 ok0 l0'.out).mono ?_; rintro e w1 ⟨rfl, hb1⟩)
          go_ret
          exact ⟨ret_bool (by simp only [peopleB, decide_eq_false H.out, Bool.false_and, Bool.and_false]), hb1⟩
theorem l19People_is {L : List Support} {P : List Int} {b : Bool} (h : (shortB L && peopleB L P) = b) (A0 A1 : Option Addr) (c0 c1 : Nat) (w : World) (r0 : Rd Support.enc 3 w.heap.size w A0 L) (ok0 : ∀ c ∈ L, c.Ok) (l0 : L.length ≤ maxLen) (r1 : Rd encI 1 w.heap.size w A1 P) (l1 : P.length ≤ maxLen) :
    Calls Try.prog 75 #[.slice A0 L.length c0, .slice A1 P.length c1] w fun e w' => e = .returned (.bool b) ∧ Below w.heap.size w w' := h ▸ l19People_any L P A0 A1 c0 c1 w r0 ok0 l0 r1 l1
theorem AreCrews_is {L : List Support} {C : List Crew} {b : Bool} (h : crewsB L C = b) (A0 A1 : Option Addr) (c0 c1 : Nat) (w : World) (r0 : Rd Support.enc 3 w.heap.size w A0 L) (ok0 : ∀ c ∈ L, c.Ok) (l0 : L.length ≤ maxLen) (r1 : Rd Crew.enc 3 w.heap.size w A1 C) (l1 : C.length ≤ maxLen) :
    Calls Try.prog 19 #[.slice A0 L.length c0, .slice A1 C.length c1] w fun e w' => e = .returned (.bool b) ∧ Below w.heap.size w w' := h ▸ AreCrews_any L C A0 A1 c0 c1 w r0 ok0 l0 r1 l1
theorem l19Crews_is {L : List Support} {C : List Crew} {b : Bool} (h : crewsB L C = b) (A0 A1 : Option Addr) (c0 c1 : Nat) (w : World) (r0 : Rd Support.enc 3 w.heap.size w A0 L) (ok0 : ∀ c ∈ L, c.Ok) (l0 : L.length ≤ maxLen) (r1 : Rd Crew.enc 3 w.heap.size w A1 C) (l1 : C.length ≤ maxLen) :
    Calls Try.prog 64 #[.slice A0 L.length c0, .slice A1 C.length c1] w fun e w' => e = .returned (.bool b) ∧ Below w.heap.size w w' := h ▸ l19Crews_any L C A0 A1 c0 c1 w r0 ok0 l0 r1 l1
end Go.Proofs.Ytgfamaopplgfgaa
