/- StockAfter, MissedUses, OrderBy: the program's functions and the reference's. -/
import Derived.Test.YtlphegjhkchglaaUseI
namespace Go.Proofs.Ytlphegjhkchglaa
open Go Go.RowKit
set_option linter.unusedVariables false
set_option linter.unusedSimpArgs false
theorem AreUses_is {L : List Part} {U : List Use} {b : Bool} (h : usesB L U = b) (A0 A1 : Option Addr) (c0 c1 : Nat) (w : World) (r0 : Rd Part.enc 5 w.heap.size w A0 L) (r1 : Rd Use.enc 3 w.heap.size w A1 U) (ok0 : ∀ c ∈ L, c.Ok) (l0 : L.length ≤ maxLen) (l1 : U.length ≤ maxLen) :
    Calls Try.prog 31 #[.slice A0 L.length c0, .slice A1 U.length c1] w fun e w' => e = .returned (.bool b) ∧ Below w.heap.size w w' := h ▸ AreUses_any L U A0 A1 c0 c1 w r0 r1 ok0 l0 l1
theorem l23Asked_is {L : List Part} {U : List Use} {b : Bool} (h : usesB L U = b) (A0 A1 : Option Addr) (c0 c1 : Nat) (w : World) (r0 : Rd Part.enc 5 w.heap.size w A0 L) (r1 : Rd Use.enc 3 w.heap.size w A1 U) (ok0 : ∀ c ∈ L, c.Ok) (l0 : L.length ≤ maxLen) (l1 : U.length ≤ maxLen) :
    Calls Try.prog 57 #[.slice A0 L.length c0, .slice A1 U.length c1] w fun e w' => e = .returned (.bool b) ∧ Below w.heap.size w w' := h ▸ l23Asked_any L U A0 A1 c0 c1 w r0 r1 ok0 l0 l1
def firstS (U : List Use) (name : ByteArray) (f x : Int) : Int := match U[x.toNat]? with
  | some u => if (u.name.toList == name.toList) && (decide (f < 0) || decide (u.day < f)) then u.day else f
  | none => f
def firstK (U : List Use) (name : ByteArray) (M : List Int) (k : Nat) : Int := (M.take k).foldl (firstS U name) (-1)
theorem first_step {U : List Use} {name : ByteArray} {M : List Int} {k i : Nat} {u : Use} (h : M[k]? = some (i : Int)) (hu : U[i]? = some u) : firstK U name M (k + 1) = if (u.name.toList == name.toList) && (decide (firstK U name M k < 0) || decide (u.day < firstK U name M k)) then u.day else firstK U name M k := by
  obtain ⟨hlt, he⟩ := List.getElem?_eq_some_iff.1 h
  unfold firstK
  rw [take_snocL _ k hlt, List.foldl_append, he]
  simp only [List.foldl_cons, List.foldl_nil, firstS, Int.toNat_natCast, hu]
theorem first_yes {U : List Use} {name : ByteArray} {M : List Int} {k i : Nat} {u : Use} {f : Int} (h : M[k]? = some (i : Int)) (hu : U[i]? = some u) (hf : firstK U name M k = f) (hb : (u.name.toList == name.toList) = true) (hd : f < 0 ∨ u.day < f) : firstK U name M (k + 1) = u.day := by
  rw [first_step h hu, hf, hb]
  rcases hd with hd | hd <;> simp [hd]
theorem first_no1 {U : List Use} {name : ByteArray} {M : List Int} {k i : Nat} {u : Use} {f : Int} (h : M[k]? = some (i : Int)) (hu : U[i]? = some u) (hf : firstK U name M k = f) (hb : (u.name.toList == name.toList) = false) : firstK U name M (k + 1) = f := by
  rw [first_step h hu, hf, hb]; simp
theorem first_no2 {U : List Use} {name : ByteArray} {M : List Int} {k i : Nat} {u : Use} {f : Int} (h : M[k]? = some (i : Int)) (hu : U[i]? = some u) (hf : firstK U name M k = f) (hd : ¬ (f < 0 ∨ u.day < f)) : firstK U name M (k + 1) = f := by
  rw [first_step h hu, hf]
  have h1 : decide (f < 0) = false := decide_eq_false (by omega)
  have h2 : decide (u.day < f) = false := decide_eq_false (by omega)
  rw [h1, h2]; simp
def firstV (L : List Part) (U : List Use) (name : ByteArray) : Int := firstK U name (missL L U 999) (missL L U 999).length
def ordB (L : List Part) (U : List Use) (name : ByteArray) : Bool := usesB L U && (decide (0 ≤ idxF (isN name) L) && decide (0 ≤ firstV L U name))
def ordV (L : List Part) (U : List Use) (name : ByteArray) : Int := if ordB L U name then (match L[(idxF (isN name) L).toNat]? with | some p => firstV L U name - p.lead | none => 0) else 0
theorem ordV_at {L : List Part} {U : List Use} {name : ByteArray} {k : Nat} {p : Part} {f : Int} (hb : ordB L U name = true) (hk : idxF (isN name) L = k) (hp : L[k]? = some p) (hf : firstV L U name = f) : ordV L U name = f - p.lead := by
  rw [ordV, if_pos hb, hk, Int.toNat_natCast, hp, hf]
set_option maxHeartbeats 1000000 in
theorem StockAfter_any (L : List Part) (U : List Use) (D : Int) (A0 A1 : Option Addr) (c0 c1 : Nat) (w : World) (r0 : Rd Part.enc 5 w.heap.size w A0 L) (r1 : Rd Use.enc 3 w.heap.size w A1 U) (ok0 : ∀ c ∈ L, c.Ok) (l0 : L.length ≤ maxLen) (l1 : U.length ≤ maxLen) :
    Calls Try.prog 42 #[.slice A0 L.length c0, .slice A1 U.length c1, .int .i64 D] w (Gives (stkV L U D).length (fun v => .tuple #[v, .bool (stkB L U D)]) (fun w' v => Own encI 1 3 w.heap.size w' v (stkV L U D)) w) := by
  cases h : usesB L U
  · have HV := hide (show stkV L U D = [] by simp [stkV, stkB, h]); have HB := hide (show stkB L U D = false by simp [stkB, h])
    go_enter Try.func42, Try.ntmps42
    go_wp2_with (go_at_call 31; refine (AreUses_is h _ _ _ _ _ r0 r1 ok0 l0 l1).mono ?_; rintro e w1 ⟨rfl, hb1⟩)
    go_ret2
    rw [HV.out, HB.out]; exact ⟨none, 0, rfl, own_nil _ _ _, hb1⟩
  have H := hide h; clear h
  cases hd : inB D 0 999
  · have HV := hide (show stkV L U D = [] by simp [stkV, stkB, hd]); have HB := hide (show stkB L U D = false by simp [stkB, hd])
    go_enter Try.func42, Try.ntmps42
    go_wp2_with (first | (go_at_call 31; refine (AreUses_is H.out _ _ _ _ _ r0 r1 ok0 l0 l1).mono ?_; rintro e w1 ⟨rfl, hb1⟩) | (go_at_call 62; refine (isDay_is hd _).mono ?_; rintro e w' ⟨rfl, rfl⟩))
    go_ret2
    rw [HV.out, HB.out]; exact ⟨none, 0, rfl, own_nil _ _ _, hb1⟩
  have HB := hide (show stkB L U D = true by simp [stkB, H.out, hd])
  have HV := hide (show stkV L U D = (runL L U D).1 by simp [stkV, HB.out])
  have HN := hide ((run_len H.out D).1)
  go_enter Try.func42, Try.ntmps42
  go_wp2_with (first | (go_at_call 31; refine (AreUses_is H.out _ _ _ _ _ r0 r1 ok0 l0 l1).mono ?_; rintro e w1 ⟨rfl, hb1⟩) | (go_at_call 62; refine (isDay_is hd _).mono ?_; rintro e w' ⟨rfl, rfl⟩) | (go_at_call 69; refine (use_any L U D _ _ _ _ _ H.out (r0.later hb1) (r1.later hb1)).mono ?_; rintro e w2 ⟨g, cg, q, cq, rfl, hos, hom, hb2⟩))
  go_ret2
  rw [HV.out, HB.out, HN.out]
  exact ⟨_, cg, rfl, Own.mono_ hos hb1.size, below_step hb1 hb2 (Nat.le_refl _)⟩
set_option maxHeartbeats 1000000 in
theorem MissedUses_any (L : List Part) (U : List Use) (A0 A1 : Option Addr) (c0 c1 : Nat) (w : World) (r0 : Rd Part.enc 5 w.heap.size w A0 L) (r1 : Rd Use.enc 3 w.heap.size w A1 U) (ok0 : ∀ c ∈ L, c.Ok) (l0 : L.length ≤ maxLen) (l1 : U.length ≤ maxLen) :
    Calls Try.prog 39 #[.slice A0 L.length c0, .slice A1 U.length c1] w (Gives (missV L U).length (fun v => .tuple #[v, .bool (usesB L U)]) (fun w' v => Own encI 1 3 w.heap.size w' v (missV L U)) w) := by
  cases h : usesB L U
  · have HV := hide (show missV L U = [] by simp [missV, h])
    go_enter Try.func39, Try.ntmps39
    go_wp2_with (go_at_call 31; refine (AreUses_is h _ _ _ _ _ r0 r1 ok0 l0 l1).mono ?_; rintro e w1 ⟨rfl, hb1⟩)
    go_ret2
    rw [HV.out]; exact ⟨none, 0, rfl, own_nil _ _ _, hb1⟩
  have H := hide h; clear h
  have HV := hide (show missV L U = missL L U 999 by simp [missV, H.out])
  go_enter Try.func39, Try.ntmps39
  go_wp2_with (first | (go_at_call 31; refine (AreUses_is H.out _ _ _ _ _ r0 r1 ok0 l0 l1).mono ?_; rintro e w1 ⟨rfl, hb1⟩) | (go_at_call 69; refine (use_any L U 999 _ _ _ _ _ H.out (r0.later hb1) (r1.later hb1)).mono ?_; rintro e w2 ⟨g, cg, q, cq, rfl, hos, hom, hb2⟩))
  go_ret2
  rw [HV.out]
  exact ⟨_, cq, rfl, Own.mono_ hom hb1.size, below_step hb1 hb2 (Nat.le_refl _)⟩
set_option maxHeartbeats 1000000 in
theorem StockAfter_spec (L : List Part) (U : List Use) (D : Int) (A0 A1 : Option Addr) (c0 c1 : Nat) (w : World) (r0 : Rd Part.enc 5 w.heap.size w A0 L) (r1 : Rd Use.enc 3 w.heap.size w A1 U) (ok0 : ∀ c ∈ L, c.Ok) (l0 : L.length ≤ maxLen) (l1 : U.length ≤ maxLen) :
    Calls Try.prog 41 #[.slice A0 L.length c0, .slice A1 U.length c1, .int .i64 D] w (Gives (stkV L U D).length (fun v => .tuple #[v, .bool (stkB L U D)]) (fun w' v => Own encI 1 3 w.heap.size w' v (stkV L U D)) w) := by
  cases h : usesB L U
  · have HV := hide (show stkV L U D = [] by simp [stkV, stkB, h]); have HB := hide (show stkB L U D = false by simp [stkB, h])
    go_enter Try.func41, Try.ntmps41
    go_wp2_with (go_at_call 57; refine (l23Asked_is h _ _ _ _ _ r0 r1 ok0 l0 l1).mono ?_; rintro e w1 ⟨rfl, hb1⟩)
    go_ret2
    rw [HV.out, HB.out]; exact ⟨_, _, rfl, own_empty hb1.size, below_step hb1 ((Below.refl _ _).alloc (Nat.le_refl _) _) (Nat.le_refl _)⟩
  have H := hide h; clear h
  cases hd : inB D 0 999
  · have HV := hide (show stkV L U D = [] by simp [stkV, stkB, hd]); have HB := hide (show stkB L U D = false by simp [stkB, hd])
    go_enter Try.func41, Try.ntmps41
    go_wp2_with (first | (go_at_call 57; refine (l23Asked_is H.out _ _ _ _ _ r0 r1 ok0 l0 l1).mono ?_; rintro e w1 ⟨rfl, hb1⟩) | (go_at_call 66; refine (l1In_is hd _).mono ?_; rintro e w' ⟨rfl, rfl⟩))
    go_ret2
    rw [HV.out, HB.out]; exact ⟨_, _, rfl, own_empty hb1.size, below_step hb1 ((Below.refl _ _).alloc (Nat.le_refl _) _) (Nat.le_refl _)⟩
  have HB := hide (show stkB L U D = true by simp [stkB, H.out, hd])
  have HV := hide (show stkV L U D = (runL L U D).1 by simp [stkV, HB.out])
  have HN := hide ((run_len H.out D).1)
  go_enter Try.func41, Try.ntmps41
  go_wp2_with (first | (go_at_call 57; refine (l23Asked_is H.out _ _ _ _ _ r0 r1 ok0 l0 l1).mono ?_; rintro e w1 ⟨rfl, hb1⟩) | (go_at_call 66; refine (l1In_is hd _).mono ?_; rintro e w' ⟨rfl, rfl⟩) | (go_at_call 68; refine (l23Run_any L U D _ _ _ _ _ H.out (r0.later hb1) (r1.later hb1)).mono ?_; rintro e w2 ⟨g, cg, q, cq, rfl, hos, hom, hb2⟩))
  go_ret2
  rw [HV.out, HB.out, HN.out]
  exact ⟨_, cg, rfl, Own.mono_ hos hb1.size, below_step hb1 hb2 (Nat.le_refl _)⟩
set_option maxHeartbeats 1000000 in
theorem MissedUses_spec (L : List Part) (U : List Use) (A0 A1 : Option Addr) (c0 c1 : Nat) (w : World) (r0 : Rd Part.enc 5 w.heap.size w A0 L) (r1 : Rd Use.enc 3 w.heap.size w A1 U) (ok0 : ∀ c ∈ L, c.Ok) (l0 : L.length ≤ maxLen) (l1 : U.length ≤ maxLen) :
    Calls Try.prog 38 #[.slice A0 L.length c0, .slice A1 U.length c1] w (Gives (missV L U).length (fun v => .tuple #[v, .bool (usesB L U)]) (fun w' v => Own encI 1 3 w.heap.size w' v (missV L U)) w) := by
  cases h : usesB L U
  · have HV := hide (show missV L U = [] by simp [missV, h])
    go_enter Try.func38, Try.ntmps38
    go_wp2_with (go_at_call 57; refine (l23Asked_is h _ _ _ _ _ r0 r1 ok0 l0 l1).mono ?_; rintro e w1 ⟨rfl, hb1⟩)
    go_ret2
    rw [HV.out]; exact ⟨_, _, rfl, own_empty hb1.size, below_step hb1 ((Below.refl _ _).alloc (Nat.le_refl _) _) (Nat.le_refl _)⟩
  have H := hide h; clear h
  have HV := hide (show missV L U = missL L U 999 by simp [missV, H.out])
  go_enter Try.func38, Try.ntmps38
  go_wp2_with (first | (go_at_call 57; refine (l23Asked_is H.out _ _ _ _ _ r0 r1 ok0 l0 l1).mono ?_; rintro e w1 ⟨rfl, hb1⟩) | (go_at_call 68; refine (l23Run_any L U 999 _ _ _ _ _ H.out (r0.later hb1) (r1.later hb1)).mono ?_; rintro e w2 ⟨g, cg, q, cq, rfl, hos, hom, hb2⟩))
  go_ret2
  rw [HV.out]
  exact ⟨_, cq, rfl, Own.mono_ hom hb1.size, below_step hb1 hb2 (Nat.le_refl _)⟩
set_option maxRecDepth 100000 in
set_option maxHeartbeats 4000000 in
theorem OrderBy_any (L : List Part) (U : List Use) (name : ByteArray) (A0 A1 : Option Addr) (c0 c1 : Nat) (w : World) (r0 : Rd Part.enc 5 w.heap.size w A0 L) (r1 : Rd Use.enc 3 w.heap.size w A1 U) (ok0 : ∀ c ∈ L, c.Ok) (l0 : L.length ≤ maxLen) (l1 : U.length ≤ maxLen) :
    Calls Try.prog 37 #[.slice A0 L.length c0, .slice A1 U.length c1, .string name] w fun e w' => e = .returned (.tuple #[.int .i64 (ordV L U name), .bool (ordB L U name)]) ∧ Below w.heap.size w w' := by
  have hno : ordB L U name = false → ordV L U name = 0 := fun h => by simp [ordV, h]
  have HNO := hide hno; clear hno
  obtain ⟨z, hz⟩ : ∃ z, idxF (isN name) L = z := ⟨_, rfl⟩
  have HZ := hide hz
  cases h : usesB L U
  · have HB := hide (show ordB L U name = false by simp [ordB, h])
    by_cases hz0 : z < 0
    all_goals
      go_enter Try.func37, Try.ntmps37
      go_wp2_with (first | (go_at_call 39; refine ((MissedUses_any L U _ _ _ _ _ r0 r1 ok0 l0 l1)).mono ?_; rw [h]; rintro e w1 ⟨Am, cm, rfl, hom, hb1⟩) | (go_at_call 61; refine (partOf_is HZ.out _ _ _ (r0.later hb1) l0).mono ?_; rintro e w2 ⟨rfl, hb2⟩))
      go_ret2
      rw [HNO.out HB.out, HB.out]; exact ⟨rfl, below_step hb1 hb2 (Nat.le_refl _)⟩
  have H := hide h
  by_cases hz0 : z < 0
  · have HB := hide (show ordB L U name = false by simp [ordB, hz]; omega)
    go_enter Try.func37, Try.ntmps37
    go_wp2_with (first | (go_at_call 39; refine ((MissedUses_any L U _ _ _ _ _ r0 r1 ok0 l0 l1)).mono ?_; rw [h]; rintro e w1 ⟨Am, cm, rfl, hom, hb1⟩) | (go_at_call 61; refine (partOf_is HZ.out _ _ _ (r0.later hb1) l0).mono ?_; rintro e w2 ⟨rfl, hb2⟩))
    go_ret2
    rw [HNO.out HB.out, HB.out]; exact ⟨rfl, below_step hb1 hb2 (Nat.le_refl _)⟩
  obtain ⟨k, rfl⟩ := Int.eq_ofNat_of_zero_le (show 0 ≤ z by omega)
  have hkl : k < L.length := by
    rcases idxF_cases (isN name) L with ⟨hi, _⟩ | ⟨kk, wk, hi, hkl, _⟩
    · omega
    · omega
  have HV := hide (show missV L U = missL L U 999 by simp [missV, h])
  have HIN := hide (missL_in h 999); have HLN := hide (missL_len h 999)
  have hfv : firstV L U name = firstK U name (missL L U 999) (missL L U 999).length := rfl
  have HOB := hide (show ordB L U name = decide (0 ≤ firstV L U name) by simp [ordB, h, hz])
  obtain ⟨hl10, hu20⟩ := usesB_len h
  have hgp := List.getElem?_eq_getElem hkl
  obtain ⟨bp, op, rfl, _, hcp⟩ := Part.rd_at r0 (by intro h2; subst h2; simp at hkl)
  obtain ⟨_, _, _, yl, _⟩ := hcp k _ hgp
  obtain ⟨_, _, ⟨ld0, ld9⟩, _⟩ := parts_bd (usesB_parts h) hgp
  generalize L[k] = p at *
  have HAT := hide (fun f hb hf => ordV_at (L := L) (U := U) (name := name) (f := f) hb HZ.out hgp hf)
  have hki : (k : Int) < (L.length : Int) := by omega
  clear hgp hcp hz h hz0
  go_enter Try.func37, Try.ntmps37
  go_wp2_with (first | (go_at_call 39; refine ((MissedUses_any L U _ _ _ _ _ r0 r1 ok0 l0 l1)).mono ?_; rw [H.out]; rintro e w1 ⟨Am, cm, rfl, hom, hb1⟩) | (go_at_call 61; refine (partOf_is HZ.out _ _ _ (r0.later hb1) l0).mono ?_; rintro e w2 ⟨rfl, hb2⟩))
  have B1 := below_step hb1 hb2 (Nat.le_refl _)
  have RM := Rd.later (Own.rd_of encI_len hom) hb2
  rw [HV.out] at RM ⊢
  have hln := HLN.out
  obtain ⟨M, hM⟩ : ∃ M, M = missL L U 999 := ⟨_, rfl⟩
  rw [← hM] at RM hln hfv ⊢
  have HM := hide hM; clear hM HLN
  go_loopw [31, 11] (fun i x wr => ∃ (j : Nat) (f : Int), j ≤ M.length ∧ i = .int .i64 j ∧ x = .int .i64 f ∧ Hid (firstK U name M j = f) ∧ -1 ≤ f ∧ f ≤ 999 ∧ Below w2.heap.size w2 wr) (fun i _ _ => M.length - (intOf i).toNat)
  case atStart => exact ⟨0, -1, Nat.zero_le _, rfl, rfl, hide rfl, by omega, by omega, Below.refl _ _⟩
  case round =>
    obtain ⟨j, f, hj, rfl, rfl, hf, hf0, hf9, hbel⟩ := hrel
    have BW := below_step B1 hbel (Nat.le_refl _)
    by_cases hlt : j < M.length
    · have hji : (j : Int) < (M.length : Int) := by omega
      obtain ⟨bm, om, hAm, _, hcm⟩ := rd_int RM (by intro h; subst h; simp at hlt)
      cases hAm
      have hgj := List.getElem?_eq_getElem hlt
      obtain ⟨i, hi, hie⟩ := HIN.out M[j] (by rw [← HM.out]; exact List.getElem_mem hlt)
      rw [hie] at hgj
      have ym := below_cell hbel (hcm j _ hgj)
      obtain ⟨bu, ou, rfl, _, hcu⟩ := Use.rd_at r1 (by intro h; subst h; simp at hi)
      have hgi := List.getElem?_eq_getElem hi
      obtain ⟨u0, u1, u2⟩ := hcu i _ hgi
      obtain ⟨_, ⟨d0, d9⟩, _⟩ := uses_at H.out hgi
      generalize U[i] = u at *
      replace u0 := below_cell BW u0; replace u1 := below_cell BW u1; replace u2 := below_cell BW u2
      have hii : (i : Int) < (U.length : Int) := by omega
      have HGJ := hide hgj; have HGI := hide hgi; clear hgj hgi hcm hcu hie
      cases hb0 : (u.name.toList == name.toList)
      · have HB0 := hide hb0
        go_wp2_with fail
        go_roundw
        case rel => exact ⟨j + 1, f, by omega, by go_num, rfl, hide (first_no1 HGJ.out HGI.out hf.out HB0.out), by omega, by omega, hbel⟩
        case measure => simp [intOf] <;> omega
      · have HB0 := hide hb0
        by_cases hf1 : f < 0
        · skip
          go_wp2_with fail
          go_roundw
          case rel => exact ⟨j + 1, u.day, by omega, by go_num, rfl, hide (first_yes HGJ.out HGI.out hf.out HB0.out (.inl hf1)), by omega, by omega, hbel⟩
          case measure => simp [intOf] <;> omega
        · by_cases hf2 : u.day < f
          · skip
            go_wp2_with fail
            go_roundw
            case rel => exact ⟨j + 1, u.day, by omega, by go_num, rfl, hide (first_yes HGJ.out HGI.out hf.out HB0.out (.inr hf2)), by omega, by omega, hbel⟩
            case measure => simp [intOf] <;> omega
          · have hno2 : ¬ (f < 0 ∨ u.day < f) := by omega
            go_wp2_with fail
            go_roundw
            case rel => exact ⟨j + 1, f, by omega, by go_num, rfl, hide (first_no2 HGJ.out HGI.out hf.out hno2), by omega, by omega, hbel⟩
            case measure => simp [intOf] <;> omega
    · obtain rfl : j = M.length := by omega
      have HFV := hide (show firstV L U name = f by rw [hfv]; exact hf.out)
      replace yl := below_cell BW yl
      by_cases hf1 : f < 0
      · have HB := hide (show ordB L U name = false by rw [HOB.out, HFV.out]; exact decide_eq_false (by omega))
        go_wp2_with fail
        go_ret2
        rw [HNO.out HB.out, HB.out]; exact ⟨rfl, BW⟩
      · have HB := hide (show ordB L U name = true by rw [HOB.out, HFV.out]; exact decide_eq_true (by omega))
        have HR := hide (HAT.out f HB.out HFV.out)
        go_wp2_with fail
        go_ret2
        rw [HR.out, HB.out]; exact ⟨rfl, BW⟩
set_option maxRecDepth 100000 in
set_option maxHeartbeats 4000000 in
theorem OrderBy_spec (L : List Part) (U : List Use) (name : ByteArray) (A0 A1 : Option Addr) (c0 c1 : Nat) (w : World) (r0 : Rd Part.enc 5 w.heap.size w A0 L) (r1 : Rd Use.enc 3 w.heap.size w A1 U) (ok0 : ∀ c ∈ L, c.Ok) (l0 : L.length ≤ maxLen) (l1 : U.length ≤ maxLen) :
    Calls Try.prog 36 #[.slice A0 L.length c0, .slice A1 U.length c1, .string name] w fun e w' => e = .returned (.tuple #[.int .i64 (ordV L U name), .bool (ordB L U name)]) ∧ Below w.heap.size w w' := by
  have hno : ordB L U name = false → ordV L U name = 0 := fun h => by simp [ordV, h]
  have HNO := hide hno; clear hno
  obtain ⟨z, hz⟩ : ∃ z, idxF (isN name) L = z := ⟨_, rfl⟩
  have HZ := hide hz
  cases h : usesB L U
  · have HB := hide (show ordB L U name = false by simp [ordB, h])
    by_cases hz0 : z < 0
    all_goals
      go_enter Try.func36, Try.ntmps36
      go_wp2_with (first | (go_at_call 65; refine (l23Find_is HZ.out _ _ _ r0 l0).mono ?_; rintro e w' ⟨rfl, rfl⟩) | (go_at_call 57; refine (l23Asked_is h _ _ _ _ _ r0 r1 ok0 l0 l1).mono ?_; rintro e w1 ⟨rfl, hb1⟩))
      go_ret2
      rw [HNO.out HB.out, HB.out]; exact ⟨rfl, hb1⟩
  have H := hide h
  by_cases hz0 : z < 0
  · have HB := hide (show ordB L U name = false by simp [ordB, hz]; omega)
    go_enter Try.func36, Try.ntmps36
    go_wp2_with (first | (go_at_call 65; refine (l23Find_is HZ.out _ _ _ r0 l0).mono ?_; rintro e w' ⟨rfl, rfl⟩) | (go_at_call 57; refine (l23Asked_is H.out _ _ _ _ _ r0 r1 ok0 l0 l1).mono ?_; rintro e w1 ⟨rfl, hb1⟩))
    go_ret2
    rw [HNO.out HB.out, HB.out]; exact ⟨rfl, hb1⟩
  obtain ⟨k, rfl⟩ := Int.eq_ofNat_of_zero_le (show 0 ≤ z by omega)
  have hkl : k < L.length := by
    rcases idxF_cases (isN name) L with ⟨hi, _⟩ | ⟨kk, wk, hi, hkl, _⟩
    · omega
    · omega
  have HV := hide (show missV L U = missL L U 999 by simp [missV, h])
  have HIN := hide (missL_in h 999); have HLN := hide (missL_len h 999)
  have hfv : firstV L U name = firstK U name (missL L U 999) (missL L U 999).length := rfl
  have HOB := hide (show ordB L U name = decide (0 ≤ firstV L U name) by simp [ordB, h, hz])
  obtain ⟨hl10, hu20⟩ := usesB_len h
  have hgp := List.getElem?_eq_getElem hkl
  obtain ⟨bp, op, rfl, _, hcp⟩ := Part.rd_at r0 (by intro h2; subst h2; simp at hkl)
  obtain ⟨_, _, _, yl, _⟩ := hcp k _ hgp
  obtain ⟨_, _, ⟨ld0, ld9⟩, _⟩ := parts_bd (usesB_parts h) hgp
  generalize L[k] = p at *
  have HAT := hide (fun f hb hf => ordV_at (L := L) (U := U) (name := name) (f := f) hb HZ.out hgp hf)
  have hki : (k : Int) < (L.length : Int) := by omega
  clear hgp hcp hz h hz0
  go_enter Try.func36, Try.ntmps36
  go_wp2_with (first | (go_at_call 65; refine (l23Find_is HZ.out _ _ _ r0 l0).mono ?_; rintro e w' ⟨rfl, rfl⟩) | (go_at_call 57; refine (l23Asked_is H.out _ _ _ _ _ r0 r1 ok0 l0 l1).mono ?_; rintro e w1 ⟨rfl, hb1⟩) | (go_at_call 68; refine (l23Run_any L U 999 _ _ _ _ _ H.out (r0.later hb1) (r1.later hb1)).mono ?_; rintro e w2 ⟨g, cg, q, cq, rfl, hos, hom, hb2⟩))
  have B1 := below_step hb1 hb2 (Nat.le_refl _)
  have RM := Own.rd_of encI_len hom
  have hln := HLN.out
  obtain ⟨M, hM⟩ : ∃ M, M = missL L U 999 := ⟨_, rfl⟩
  rw [← hM] at RM hln hfv ⊢
  have HM := hide hM; clear hM HLN
  go_loopw [12, 11] (fun i x wr => ∃ (j : Nat) (f : Int), j ≤ M.length ∧ i = .int .i64 j ∧ x = .int .i64 f ∧ Hid (firstK U name M j = f) ∧ -1 ≤ f ∧ f ≤ 999 ∧ Below w2.heap.size w2 wr) (fun i _ _ => M.length - (intOf i).toNat)
  case atStart => exact ⟨0, -1, Nat.zero_le _, rfl, rfl, hide rfl, by omega, by omega, Below.refl _ _⟩
  case round =>
    obtain ⟨j, f, hj, rfl, rfl, hf, hf0, hf9, hbel⟩ := hrel
    have BW := below_step B1 hbel (Nat.le_refl _)
    by_cases hlt : j < M.length
    · have hji : (j : Int) < (M.length : Int) := by omega
      obtain ⟨bm, om, hAm, _, hcm⟩ := rd_int RM (by intro h; subst h; simp at hlt)
      cases hAm
      have hgj := List.getElem?_eq_getElem hlt
      obtain ⟨i, hi, hie⟩ := HIN.out M[j] (by rw [← HM.out]; exact List.getElem_mem hlt)
      rw [hie] at hgj
      have ym := below_cell hbel (hcm j _ hgj)
      rw [Nat.zero_add] at ym
      obtain ⟨bu, ou, rfl, _, hcu⟩ := Use.rd_at r1 (by intro h; subst h; simp at hi)
      have hgi := List.getElem?_eq_getElem hi
      obtain ⟨u0, u1, u2⟩ := hcu i _ hgi
      obtain ⟨_, ⟨d0, d9⟩, _⟩ := uses_at H.out hgi
      generalize U[i] = u at *
      replace u0 := below_cell BW u0; replace u1 := below_cell BW u1; replace u2 := below_cell BW u2
      have hii : (i : Int) < (U.length : Int) := by omega
      have HGJ := hide hgj; have HGI := hide hgi; clear hgj hgi hcm hcu hie
      cases hb0 : (u.name.toList == name.toList)
      · have HB0 := hide hb0
        go_wp2_with fail
        go_roundw
        case rel => exact ⟨j + 1, f, by omega, by go_num, rfl, hide (first_no1 HGJ.out HGI.out hf.out HB0.out), by omega, by omega, hbel.alloc hbel.size _⟩
        case measure => simp [intOf] <;> omega
      · have HB0 := hide hb0
        by_cases hf1 : f < 0
        · skip
          go_wp2_with fail
          go_roundw
          case rel => exact ⟨j + 1, u.day, by omega, by go_num, rfl, hide (first_yes HGJ.out HGI.out hf.out HB0.out (.inl hf1)), by omega, by omega, hbel.alloc hbel.size _⟩
          case measure => simp [intOf] <;> omega
        · by_cases hf2 : u.day < f
          · skip
            go_wp2_with fail
            go_roundw
            case rel => exact ⟨j + 1, u.day, by omega, by go_num, rfl, hide (first_yes HGJ.out HGI.out hf.out HB0.out (.inr hf2)), by omega, by omega, hbel.alloc hbel.size _⟩
            case measure => simp [intOf] <;> omega
          · have hno2 : ¬ (f < 0 ∨ u.day < f) := by omega
            go_wp2_with fail
            go_roundw
            case rel => exact ⟨j + 1, f, by omega, by go_num, rfl, hide (first_no2 HGJ.out HGI.out hf.out hno2), by omega, by omega, hbel.alloc hbel.size _⟩
            case measure => simp [intOf] <;> omega
    · obtain rfl : j = M.length := by omega
      have HFV := hide (show firstV L U name = f by rw [hfv]; exact hf.out)
      replace yl := below_cell BW yl
      by_cases hf1 : f < 0
      · have HB := hide (show ordB L U name = false by rw [HOB.out, HFV.out]; exact decide_eq_false (by omega))
        go_wp2_with fail
        go_ret2
        rw [HNO.out HB.out, HB.out]; exact ⟨rfl, BW⟩
      · have HB := hide (show ordB L U name = true by rw [HOB.out, HFV.out]; exact decide_eq_true (by omega))
        have HR := hide (HAT.out f HB.out HFV.out)
        go_wp2_with fail
        go_ret2
        rw [HR.out, HB.out]; exact ⟨rfl, BW⟩
end Go.Proofs.Ytlphegjhkchglaa
