/- Uses of parts: whether they are valid; the program's functions and the reference's. -/
import Derived.Test.YtlphegjhkchglaaParts2
import Derived.Test.YtlphegjhkchglaaLibUse
namespace Go.Proofs.Ytlphegjhkchglaa
open Go Go.RowKit
def isN (name : ByteArray) (p : Part) : Bool := p.name.toList == name.toList
theorem isN_pred (name : ByteArray) (L : List Part) (w : World) (B : Nat) (hc : w.cell? ⟨B, 0, none⟩ = some (.string name)) : Part.Pred 80 #[.pointer (some ⟨B, 0, none⟩)] (isN name) L w := by
  refine ⟨entersF Try.func80 (by kernel_rfl) rfl, fun W c _ hb => ?_⟩
  have hc1 := below_cell hb hc
  have hc2 : (W.alloc (.cells #[.string c.name, .int .i64 c.have_, .int .i64 c.least, .int .i64 c.lead, .int .i64 c.price] 62)).cell? ⟨B, 0, none⟩ = some (.string name) := below_cell ((Below.refl _ _).alloc (Nat.le_refl _) _) hc1
  show Calls Try.prog 80 #[.agg #[.string c.name, .int .i64 c.have_, .int .i64 c.least, .int .i64 c.lead, .int .i64 c.price], .pointer (some ⟨B, 0, none⟩)] W _
  go_enter Try.func80, Try.ntmps80
  go_wp2_with fail
  go_ret
  exact ⟨rfl, (Below.refl _ _).alloc (Nat.le_refl _) _⟩
theorem partOf_any (L : List Part) (A : Option Addr) (cap : Nat) (name : ByteArray) (w : World) (hr : Rd Part.enc 5 w.heap.size w A L) (hl : L.length ≤ maxLen) :
    Calls Try.prog 61 #[.slice A L.length cap, .string name] w fun e w' => e = .returned (.int .i64 (idxF (isN name) L)) ∧ Below w.heap.size w w' := by
  have hba : Below w.heap.size w (w.alloc (.cells #[.string name] 9)) := (Below.refl _ _).alloc (Nat.le_refl _) _
  go_enter Try.func61, Try.ntmps61
  go_wp2_with (go_at_call 79; refine (Part.IndexFunc_any _ _ (isN name) L _ _ _ (hr.later hba) hl (isN_pred name L _ _ (by simp))).mono ?_; rintro e w1 ⟨rfl, hb1⟩)
  go_ret
  exact ⟨rfl, below_new' hb1⟩
theorem partOf_is {L : List Part} {name : ByteArray} {z : Int} (h : idxF (isN name) L = z) (A : Option Addr) (cap : Nat) (w : World) (hr : Rd Part.enc 5 w.heap.size w A L) (hl : L.length ≤ maxLen) :
    Calls Try.prog 61 #[.slice A L.length cap, .string name] w fun e w' => e = .returned (.int .i64 z) ∧ Below w.heap.size w w' := h ▸ partOf_any L A cap name w hr hl
theorem l23Find_any (L : List Part) (A : Option Addr) (cap : Nat) (name : ByteArray) (w : World) (hr : Rd Part.enc 5 w.heap.size w A L) (hl : L.length ≤ maxLen) :
    Calls Try.prog 65 #[.slice A L.length cap, .string name] w fun e w' => e = .returned (.int .i64 (idxF (isN name) L)) ∧ w = w' := by
  unfold maxLen at hl
  go_enter Try.func65, Try.ntmps65
  go_wp2_with fail
  go_loop [5] (fun i => ∃ k : Nat, k ≤ L.length ∧ i = .int .i64 k ∧ Hid (∀ (j : Nat) (d : Part), j < k → L[j]? = some d → isN name d = false)) (fun i => L.length - (intOf i).toNat)
  case atStart => exact ⟨0, Nat.zero_le _, rfl, hide (fun j d hj => absurd hj (Nat.not_lt_zero j))⟩
  case round =>
    obtain ⟨k, hk, rfl, hn⟩ := hrel
    by_cases hlt : k < L.length
    · obtain ⟨b, o, rfl, hb, hc⟩ := Part.rd_at hr (by intro h; subst h; simp at hlt)
      have hget := List.getElem?_eq_getElem hlt
      obtain ⟨c0, c1, c2, c3, c4⟩ := hc k _ hget
      generalize L[k] = c at *
      have HG := hide hget; clear hget hc hr
      cases hw : isN name c
      · have hb0 : (c.name.toList == name.toList) = false := hw
        have HW := hide hw; clear hw
        go_wp2_with fail
        go_round
        case rel => exact ⟨k + 1, by omega, by go_num, hide (no_step hn.out HG.out HW.out)⟩
        case measure => simp [intOf]; omega
      · have hb0 : (c.name.toList == name.toList) = true := hw
        have HW := hide hw; clear hw
        go_wp2_with fail
        go_ret
        exact ⟨ret_int (idxF_hit HG.out HW.out hn.out).symm, rfl⟩
    · obtain rfl : k = L.length := by omega
      go_wp2_with fail
      go_ret
      exact ⟨ret_int (idxF_none hn.out).symm, rfl⟩
theorem l23Find_is {L : List Part} {name : ByteArray} {z : Int} (h : idxF (isN name) L = z) (A : Option Addr) (cap : Nat) (w : World) (hr : Rd Part.enc 5 w.heap.size w A L) (hl : L.length ≤ maxLen) :
    Calls Try.prog 65 #[.slice A L.length cap, .string name] w fun e w' => e = .returned (.int .i64 z) ∧ w = w' := h ▸ l23Find_any L A cap name w hr hl
theorem isDay_any (n : Int) (w : World) : Calls Try.prog 62 #[.int .i64 n] w fun e w' => e = .returned (.bool (inB n 0 999)) ∧ w = w' := by
  go_enter Try.func62, Try.ntmps62
  go_wp2_with (go_at_call 63; refine (within_any _ _ _ _).mono ?_; rintro e w' ⟨rfl, rfl⟩)
  go_ret
  exact ⟨rfl, rfl⟩
theorem isDay_is {n : Int} {b : Bool} (h : inB n 0 999 = b) (w : World) : Calls Try.prog 62 #[.int .i64 n] w fun e w' => e = .returned (.bool b) ∧ w = w' := h ▸ isDay_any n w
def useBad (L : List Part) (u : Use) : Bool := !(L.any (isN u.name) && (inB u.day 0 999 && inB u.count 1 100))
def usesB (L : List Part) (U : List Use) : Bool := partsB L && (decide (U.length ≤ 20) && !U.any (useBad L))
theorem use_pred (L : List Part) (A : Option Addr) (cap : Nat) (U : List Use) (w : World) (B : Nat) (hr : Rd Part.enc 5 w.heap.size w A L) (hl : L.length ≤ maxLen) (hc : w.cell? ⟨B, 0, none⟩ = some (.slice A L.length cap)) :
    Use.Pred 60 #[.pointer (some ⟨B, 0, none⟩)] (useBad L) U w := by
  refine ⟨entersF Try.func60 (by kernel_rfl) rfl, fun W c _ hb => ?_⟩
  have hc1 := below_cell hb hc
  have hba : Below W.heap.size W (W.alloc (.cells #[.string c.name, .int .i64 c.day, .int .i64 c.count] 60)) := (Below.refl _ _).alloc (Nat.le_refl _) _
  have hc2 := below_cell hba hc1
  have hr2 := hide ((hr.later hb).later hba)
  show Calls Try.prog 60 #[.agg #[.string c.name, .int .i64 c.day, .int .i64 c.count], .pointer (some ⟨B, 0, none⟩)] W _
  clear hr
  rcases idxF_cases (isN c.name) L with ⟨hi, hany⟩ | ⟨kk, wk, hi, hkl, hgk, hpk, hany, hno⟩
  · have HI := hide hi; clear hi
    go_enter Try.func60, Try.ntmps60
    go_wp2_with (go_at_call 61; refine (partOf_is HI.out _ _ _ hr2.out hl).mono ?_; rintro e w1 ⟨rfl, hb1⟩; have e1 := below_cell hb1 (cell_new W #[.string c.name, .int .i64 c.day, .int .i64 c.count] 60 _ 1 _ rfl rfl); have e2 := below_cell hb1 (cell_new W #[.string c.name, .int .i64 c.day, .int .i64 c.count] 60 _ 2 _ rfl rfl))
    go_ret
    exact ⟨ret_bool (by simp [useBad, hany]), below_new' hb1⟩
  · have HI := hide hi; clear hi hno hgk hpk
    have hk0 : (0 : Int) ≤ (kk : Int) := by omega
    go_enter Try.func60, Try.ntmps60
    go_wp2_with (first | (go_at_call 61; refine (partOf_is HI.out _ _ _ hr2.out hl).mono ?_; rintro e w1 ⟨rfl, hb1⟩; have e1 := below_cell hb1 (cell_new W #[.string c.name, .int .i64 c.day, .int .i64 c.count] 60 _ 1 _ rfl rfl); have e2 := below_cell hb1 (cell_new W #[.string c.name, .int .i64 c.day, .int .i64 c.count] 60 _ 2 _ rfl rfl)) | (go_at_call 62; refine (isDay_any _ _).mono ?_; rintro e w' ⟨rfl, rfl⟩) | (go_at_call 63; refine (within_any _ _ _ _).mono ?_; rintro e w' ⟨rfl, rfl⟩))
    all_goals go_ret
    all_goals exact ⟨ret_bool (by simp [useBad, *]; try (intro _; omega)), below_new' hb1⟩
theorem Use.ContainsFunc_n {n : Nat} {b : Bool} (g : Nat) (caps : Array Value) (p : Use → Bool) (L : List Use) (hn : L.length = n) (hb : L.any p = b) (A : Option Addr) (cap : Nat) (w : World) (hr : Rd Use.enc 3 w.heap.size w A L) (hl : L.length ≤ maxLen) (hp : Use.Pred g caps p L w) :
    Calls Try.prog 59 #[.slice A n cap, .func (.func g) #[] caps] w fun e w' => e = .returned (.bool b) ∧ Below w.heap.size w w' := by
  subst hn; subst hb; exact Use.ContainsFunc_any g caps p L A cap w hr hl hp
set_option maxHeartbeats 1000000 in
theorem AreUses_any (L : List Part) (U : List Use) (A0 A1 : Option Addr) (c0 c1 : Nat) (w : World) (r0 : Rd Part.enc 5 w.heap.size w A0 L) (r1 : Rd Use.enc 3 w.heap.size w A1 U) (ok0 : ∀ c ∈ L, c.Ok) (l0 : L.length ≤ maxLen) (l1 : U.length ≤ maxLen) :
    Calls Try.prog 31 #[.slice A0 L.length c0, .slice A1 U.length c1] w fun e w' => e = .returned (.bool (usesB L U)) ∧ Below w.heap.size w w' := by
  have hba : Below w.heap.size w (w.alloc (.cells #[.slice A0 L.length c0] 25)) := (Below.refl _ _).alloc (Nat.le_refl _) _
  have x0 : (w.alloc (.cells #[.slice A0 L.length c0] 25)).cell? ⟨w.heap.size, 0, none⟩ = some (.slice A0 L.length c0) := by simp
  cases hp : partsB L
  · have HP := hide hp; clear hp
    go_enter Try.func31, Try.ntmps31
    go_wp2_with (go_at_call 16; refine (AreParts_is HP.out _ _ _ (r0.later hba) ok0 l0).mono ?_; rintro e w1 ⟨rfl, hb1⟩; have x1 := below_cell hb1 x0)
    go_ret
    exact ⟨ret_bool (by simp [usesB, HP.out]), below_new' hb1⟩
  · have HP := hide hp; clear hp
    by_cases h20 : (U.length : Int) ≤ 20
    · cases hu : U.any (useBad L)
      all_goals
        have HU := hide hu; clear hu
        go_enter Try.func31, Try.ntmps31
        go_wp2_with (first | (go_at_call 16; refine (AreParts_is HP.out _ _ _ (r0.later hba) ok0 l0).mono ?_; rintro e w1 ⟨rfl, hb1⟩; have x1 := below_cell hb1 x0) | (go_at_call 59; refine (Use.ContainsFunc_n _ _ (useBad L) U rfl HU.out _ _ _ ((r1.later hba).later hb1) l1 (use_pred L A0 c0 U _ _ ((r0.later hba).later hb1) l0 x1)).mono ?_; rintro e w2 ⟨rfl, hb2⟩))
        go_ret
        exact ⟨ret_bool (by simp [usesB, HP.out, HU.out]; try omega), below_step (below_new' hb1) hb2 (Nat.le_refl _)⟩
    · go_enter Try.func31, Try.ntmps31
      go_wp2_with (go_at_call 16; refine (AreParts_is HP.out _ _ _ (r0.later hba) ok0 l0).mono ?_; rintro e w1 ⟨rfl, hb1⟩; have x1 := below_cell hb1 x0)
      go_ret
      exact ⟨ret_bool (by simp [usesB]; omega), below_new' hb1⟩
set_option maxHeartbeats 1000000 in
theorem l23Asked_any (L : List Part) (U : List Use) (A0 A1 : Option Addr) (c0 c1 : Nat) (w : World) (r0 : Rd Part.enc 5 w.heap.size w A0 L) (r1 : Rd Use.enc 3 w.heap.size w A1 U) (ok0 : ∀ c ∈ L, c.Ok) (l0 : L.length ≤ maxLen) (l1 : U.length ≤ maxLen) :
    Calls Try.prog 57 #[.slice A0 L.length c0, .slice A1 U.length c1] w fun e w' => e = .returned (.bool (usesB L U)) ∧ Below w.heap.size w w' := by
  have l1' := hide l1
  unfold maxLen at l1
  go_enter Try.func57, Try.ntmps57
  go_wp2_with fail
  go_loop [5] (fun i => ∃ k : Nat, k ≤ U.length ∧ i = .int .i64 k ∧ Hid (∀ (j : Nat) (d : Use), j < k → U[j]? = some d → useBad L d = false)) (fun i => U.length - (intOf i).toNat)
  case atStart => exact ⟨0, Nat.zero_le _, rfl, hide (fun j d hj => absurd hj (Nat.not_lt_zero j))⟩
  case round =>
    obtain ⟨k, hk, rfl, hn⟩ := hrel
    by_cases hlt : k < U.length
    · obtain ⟨b, o, rfl, hb, hc⟩ := Use.rd_at r1 (by intro h; subst h; simp at hlt)
      have hget := List.getElem?_eq_getElem hlt
      obtain ⟨x0, x1, x2⟩ := hc k _ hget
      have hmem := hide (List.getElem_mem hlt)
      generalize U[k] = c at *
      have HG := hide hget; clear hget hc r1
      cases hub : useBad L c
      · have HU := hide hub
        simp only [useBad, Bool.not_eq_eq_eq_not, Bool.not_false, Bool.and_eq_true] at hub
        obtain ⟨hany, h1, h2⟩ := hub
        rcases idxF_cases (isN c.name) L with ⟨hi, hany'⟩ | ⟨kk, wk, hi, hkl, hgk, hpk, _, hno⟩
        · rw [hany] at hany'; cases hany'
        · have HI := hide hi; clear hi hno hgk hpk
          have hk0 : (0 : Int) ≤ (kk : Int) := by omega
          have H1 := hide h1
          have H2 := hide h2
          clear h1 h2 hany
          go_wp2_with (first | (go_at_call 65; refine (l23Find_is HI.out _ _ _ r0 l0).mono ?_; rintro e w' ⟨rfl, rfl⟩) | (go_at_call 66; refine (l1In_is (by first | exact H1.out | exact H2.out) _).mono ?_; rintro e w' ⟨rfl, rfl⟩))
          go_round
          case rel => exact ⟨k + 1, by omega, by go_num, hide (no_step hn.out HG.out HU.out)⟩
          case measure => simp [intOf]; omega
      · have hua : U.any (useBad L) = true := List.any_eq_true.2 ⟨c, hmem.out, hub⟩
        have HU := hide (show usesB L U = false by simp only [usesB, hua]; simp)
        rcases idxF_cases (isN c.name) L with ⟨hi, hany⟩ | ⟨kk, wk, hi, hkl, hgk, hpk, hany, hno⟩
        · have HI := hide hi; clear hi
          go_wp2_with (first | (go_at_call 65; refine (l23Find_is HI.out _ _ _ r0 l0).mono ?_; rintro e w' ⟨rfl, rfl⟩))
          go_ret
          exact ⟨ret_bool HU.out.symm, Below.refl _ _⟩
        · have HI := hide hi; clear hi hno hgk hpk
          have hk0 : (0 : Int) ≤ (kk : Int) := by omega
          cases h1 : inB c.day 0 999
          · have H1 := hide h1
            go_wp2_with (first | (go_at_call 65; refine (l23Find_is HI.out _ _ _ r0 l0).mono ?_; rintro e w' ⟨rfl, rfl⟩) | (go_at_call 66; refine (l1In_is H1.out _).mono ?_; rintro e w' ⟨rfl, rfl⟩))
            go_ret
            exact ⟨ret_bool HU.out.symm, Below.refl _ _⟩
          · have h2 : inB c.count 1 100 = false := by
              cases h2 : inB c.count 1 100
              · rfl
              · simp [useBad, hany, h1, h2] at hub
            have H1 := hide h1
            have H2 := hide h2
            clear h1 h2
            go_wp2_with (first | (go_at_call 65; refine (l23Find_is HI.out _ _ _ r0 l0).mono ?_; rintro e w' ⟨rfl, rfl⟩) | (go_at_call 66; refine (l1In_is (by first | exact H1.out | exact H2.out) _).mono ?_; rintro e w' ⟨rfl, rfl⟩))
            go_ret
            exact ⟨ret_bool HU.out.symm, Below.refl _ _⟩
    · obtain rfl : k = U.length := by omega
      have hua : U.any (useBad L) = false := by
        rw [List.any_eq_false]
        intro x hx
        obtain ⟨j, hj, rfl⟩ := List.mem_iff_getElem.1 hx
        simp [hn.out j _ hj (List.getElem?_eq_getElem hj)]
      cases hp : partsB L
      · have HP := hide hp; clear hp
        go_wp2_with (go_at_call 50; refine (l23Good_is HP.out _ _ _ r0 ok0 l0).mono ?_; rintro e w1 ⟨rfl, hb1⟩)
        go_ret
        exact ⟨ret_bool (by simp [usesB, HP.out]), hb1⟩
      · have HP := hide hp; clear hp
        go_wp2_with (go_at_call 50; refine (l23Good_is HP.out _ _ _ r0 ok0 l0).mono ?_; rintro e w1 ⟨rfl, hb1⟩)
        go_ret
        exact ⟨ret_bool (by simp only [usesB, HP.out, hua]; simp; omega), hb1⟩
theorem AreUses_spec (L : List Part) (U : List Use) (A0 A1 : Option Addr) (c0 c1 : Nat) (w : World) (r0 : Rd Part.enc 5 w.heap.size w A0 L) (r1 : Rd Use.enc 3 w.heap.size w A1 U) (ok0 : ∀ c ∈ L, c.Ok) (l0 : L.length ≤ maxLen) (l1 : U.length ≤ maxLen) :
    Calls Try.prog 29 #[.slice A0 L.length c0, .slice A1 U.length c1] w fun e w' => e = .returned (.bool (usesB L U)) ∧ Below w.heap.size w w' := by
  go_enter Try.func29, Try.ntmps29
  go_wp2_with (go_at_call 57; refine (l23Asked_any L U _ _ _ _ _ r0 r1 ok0 l0 l1).mono ?_; rintro e w' ⟨rfl, hb⟩)
  go_ret
  exact ⟨rfl, hb⟩
end Go.Proofs.Ytlphegjhkchglaa
