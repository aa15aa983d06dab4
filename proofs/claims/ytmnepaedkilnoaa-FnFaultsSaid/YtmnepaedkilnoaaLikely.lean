/- The likeliest fault: both packages. Slices are as the reader gives them. -/
import Derived.Test.YtmnepaedkilnoaaAsked
namespace Go.Proofs.Ytmnepaedkilnoaa
open Go Go.RowKit
set_option linter.unusedVariables false
abbrev LikeS := Int × Nat × Int
def likeStep (R : List Event) (s : LikeS) (p : Pat) : LikeS := if 0 ≤ detT R p ∧ (s.2.1 < p.codes.length ∨ (p.codes.length = s.2.1 ∧ detT R p < s.2.2)) then (p.fault, p.codes.length, detT R p) else s
def likeUp (R : List Event) (P : List Pat) : LikeS := P.foldl (likeStep R) (0, 0, 0)
def likeC (R : List Event) (L : List Pattern) : LikeS := likeUp R (Pattern.pats L)
def likeV (R : List Event) (P : List Pat) : Int := if recB R && patsB P then (likeUp R P).1 else 0
theorem likeC_step {R : List Event} {L : List Pattern} {k : Nat} {c : Pattern} (hk : L[k]? = some c) : likeC R (L.take (k + 1)) = likeStep R (likeC R (L.take k)) c.toPat := by
  obtain ⟨hlt, rfl⟩ := List.getElem?_eq_some_iff.1 hk
  rw [take_snocL L k hlt]
  simp only [likeC, likeUp, Pattern.pats, List.map_append, List.map_cons, List.map_nil, List.foldl_append, List.foldl_cons, List.foldl_nil]
theorem like_no {R : List Event} {s : LikeS} {p : Pat} {f t m : Int} {n : Nat} (hs : s = (f, n, m)) (ht : detT R p = t) (h : t < 0 ∨ (¬ n < p.codes.length ∧ (p.codes.length ≠ n ∨ ¬ t < m))) : likeStep R s p = (f, n, m) := by
  subst hs; subst ht
  unfold likeStep
  dsimp only
  rw [if_neg]
  omega
theorem like_yes {R : List Event} {s : LikeS} {p : Pat} {f t m : Int} {n : Nat} (hs : s = (f, n, m)) (ht : detT R p = t) (h0 : 0 ≤ t) (h : n < p.codes.length ∨ (p.codes.length = n ∧ t < m)) : likeStep R s p = (p.fault, p.codes.length, t) := by
  subst hs; subst ht
  unfold likeStep
  rw [if_pos]
  exact ⟨h0, h⟩
theorem detected_is {p : Pat} {R : List Event} {t : Int} (h : detT R p = t) (ca : Option Addr) (cc : Nat) (A : Option Addr) (cap : Nat) (w : World) (hR : recB R = true) (hp : patB p = true) (hr : Rd Event.enc 2 w.heap.size w A R) (hd : Rd encI 1 w.heap.size w ca p.codes) :
    Calls Try.prog 71 #[.agg #[.int .i64 p.fault, .slice ca p.codes.length cc, .int .i64 p.within], .slice A R.length cap] w fun e w' => e = .returned (.int .i64 t) ∧ Below w.heap.size w w' := h ▸ detected_p p ca cc R A cap w hR hp hr hd
theorem l20Detected_is {p : Pat} {R : List Event} {t : Int} (h : detT R p = t) (ca : Option Addr) (cc : Nat) (A : Option Addr) (cap : Nat) (w : World) (hR : recB R = true) (hp : patB p = true) (hr : Rd Event.enc 2 w.heap.size w A R) (hd : Rd encI 1 w.heap.size w ca p.codes) :
    Calls Try.prog 70 #[.slice A R.length cap, .agg #[.int .i64 p.fault, .slice ca p.codes.length cc, .int .i64 p.within]] w fun e w' => e = .returned (.int .i64 t) ∧ Below w.heap.size w w' := h ▸ l20Detected_p p ca cc R A cap w hR hp hr hd

set_option maxRecDepth 100000 in
set_option maxHeartbeats 4000000 in
theorem LikeliestFault_any {L : List Pattern} {P : List Pat} (hPP : Pattern.pats L = P) (A0 A1 : Option Addr) (c0 c1 : Nat) (R : List Event) (w : World) (r0 : Rd Event.enc 2 w.heap.size w A0 R) (ok0 : ∀ c ∈ R, c.Ok) (l0 : R.length ≤ maxLen) (r1 : Rd Pattern.enc 3 w.heap.size w A1 L) (ok1 : ∀ c ∈ L, c.Ok) (l1 : L.length ≤ maxLen) (d1 : Pattern.DeepP w.heap.size w L) :
    Calls Try.prog 31 #[.slice A0 R.length c0, .slice A1 L.length c1] w fun e w' => e = .returned (.tuple #[.int .i64 (likeV R P), .bool (decide (0 < likeV R P))]) ∧ Below w.heap.size w w' := by
  subst hPP
  cases hR : recB R
  · have HV := hide (show likeV R (Pattern.pats L) = 0 by simp [likeV, hR])
    go_enter Try.func31, Try.ntmps31
    go_wp2_with (first | (go_at_call 17; refine (IsRecordOf_is hR _ _ _ r0 ok0 l0).mono ?_; rintro e w1 ⟨rfl, hb1⟩; have B1 := hb1) | (go_at_call 22; refine (ArePatterns_is rfl hP _ _ _ (r1.later B1) ok1 l1 (d1.later B1)).mono ?_; rintro e w2 ⟨rfl, hb2⟩; have B2 := below_step B1 hb2 (Nat.le_refl _)))
    go_ret2
    rw [HV.out]
    exact ⟨rfl, B1⟩
  · have HZ0 := True.intro
    cases hP : patsB (Pattern.pats L)
    · have HV := hide (show likeV R (Pattern.pats L) = 0 by simp [likeV, hP])
      have HR := hide hR; clear hR
      go_enter Try.func31, Try.ntmps31
      go_wp2_with (first | (go_at_call 17; refine (IsRecordOf_is HR.out _ _ _ r0 ok0 l0).mono ?_; rintro e w1 ⟨rfl, hb1⟩; have B1 := hb1) | (go_at_call 22; refine (ArePatterns_is rfl hP _ _ _ (r1.later B1) ok1 l1 (d1.later B1)).mono ?_; rintro e w2 ⟨rfl, hb2⟩; have B2 := below_step B1 hb2 (Nat.le_refl _)))
      go_ret2
      rw [HV.out]
      exact ⟨rfl, B2⟩
    · have HZ1 := True.intro
      have HV := hide (show likeV R (Pattern.pats L) = (likeC R L).1 by simp [likeV, hR, hP, likeC])
      have hlen := riseB_len hP
      rw [Pattern.pats, List.length_map] at hlen
      have HPB := hide (fun (c : Pattern) (hc : c ∈ L) => show patB c.toPat = true from by obtain ⟨j, hj, rfl⟩ := List.mem_iff_getElem.1 hc; exact riseB_one hP j _ (by simp [Pattern.pats, List.getElem?_eq_getElem hj]))
      have HDB := hide (fun (p : Pat) => show -1 ≤ detT R p ∧ detT R p ≤ 100000 from detUp_bd p hR R.length)
      have HR := hide hR; have HP := hide hP; clear hR hP
      go_enter Try.func31, Try.ntmps31
      go_wp2_with (first | (go_at_call 17; refine (IsRecordOf_is HR.out _ _ _ r0 ok0 l0).mono ?_; rintro e w1 ⟨rfl, hb1⟩; have B1 := hb1) | (go_at_call 22; refine (ArePatterns_is rfl HP.out _ _ _ (r1.later B1) ok1 l1 (d1.later B1)).mono ?_; rintro e w2 ⟨rfl, hb2⟩; have B2 := below_step B1 hb2 (Nat.le_refl _)))
      go_loopw [22, 6, 7, 8] (fun i x y z wr => ∃ (k : Nat) (f : Int) (n : Nat) (m : Int), k ≤ L.length ∧ i = .int .i64 k ∧ x = .int .i64 f ∧ y = .int .i64 n ∧ z = .int .i64 m ∧ Hid (likeC R (L.take k) = (f, n, m)) ∧ 0 ≤ f ∧ f ≤ 99 ∧ n ≤ 5 ∧ 0 ≤ m ∧ m ≤ 100000 ∧ Below w.heap.size w wr) (fun i _ _ _ _ => L.length - (intOf i).toNat)
      case atStart => exact ⟨0, 0, 0, 0, Nat.zero_le _, rfl, rfl, rfl, rfl, hide rfl, by omega, by omega, by omega, by omega, by omega, B2⟩
      case round =>
        obtain ⟨k, f, n, m, hk, rfl, rfl, rfl, rfl, hst, hf0, hf9, hn5, hm0, hm9, hbel⟩ := hrel
        by_cases hlt : k < L.length
        · obtain ⟨b, o, rfl, hb, hc⟩ := Pattern.rd_at r1 (by intro h; subst h; simp at hlt)
          have hget := List.getElem?_eq_getElem hlt
          obtain ⟨x0, x1, x2⟩ := hc k _ hget
          have hpb := HPB.out L[k] (List.getElem_mem hlt)
          have hdc := d1 L[k] (List.getElem_mem hlt)
          have HS := hide (@likeC_step R L k _ hget)
          generalize L[k] = c at *
          obtain ⟨⟨pf0, pf9⟩, ⟨pl0, pl9⟩, _⟩ := patB_bd hpb
          have HPC := hide hpb; have HDC := hide hdc
          have htb := HDB.out c.toPat
          obtain ⟨t, ht⟩ : ∃ t, detT R c.toPat = t := ⟨_, rfl⟩
          rw [ht] at htb
          obtain ⟨ht0, ht9⟩ := htb
          have HT := hide ht
          clear hc hget hpb hdc ht
          replace x0 := below_cell hbel x0
          replace x1 := below_cell hbel x1
          replace x2 := below_cell hbel x2
          have hki : (k : Int) < (L.length : Int) := by omega
          have B3 : Below w.heap.size w (wr.alloc (.cells #[.int .i64 c.fault, .slice c.ca c.codes.length c.cc, .int .i64 c.within] 62)) := hbel.alloc hbel.size _
          obtain ⟨z0, _⟩ := CF.new wr #[.int .i64 c.fault, .slice c.ca c.codes.length c.cc, .int .i64 c.within] 62 wr.heap.size 0 _ rfl rfl
          obtain ⟨z1, _⟩ := CF.new wr #[.int .i64 c.fault, .slice c.ca c.codes.length c.cc, .int .i64 c.within] 62 wr.heap.size 1 _ rfl rfl
          have R3 := hide (r0.later B3); have D3 := hide (HDC.out.later B3)
          by_cases h0 : t < 0
          · have HH := hide h0
            go_wp2_with (go_at_call 71; refine (detected_is (p := c.toPat) HT.out c.ca c.cc _ _ _ HR.out HPC.out R3.out D3.out).mono ?_; rintro e w4 ⟨rfl, hb4⟩; have y0 := below_cell hb4 z0; have y1 := below_cell hb4 z1)
            go_roundw
            case rel => exact ⟨k + 1, f, n, m, by omega, by go_num, rfl, rfl, rfl, hide (by rw [HS.out]; exact like_no hst.out HT.out (.inl HH.out)), by omega, by omega, by omega, by omega, by omega, below_step B3 hb4 (Nat.le_refl _)⟩
            case measure => simp [intOf]; omega
          · have ht1 : 0 ≤ t := by omega
            by_cases h1 : n < c.codes.length
            · have h1' : (n : Int) < (c.codes.length : Int) := by omega
              have HH := hide h1
              go_wp2_with (go_at_call 71; refine (detected_is (p := c.toPat) HT.out c.ca c.cc _ _ _ HR.out HPC.out R3.out D3.out).mono ?_; rintro e w4 ⟨rfl, hb4⟩; have y0 := below_cell hb4 z0; have y1 := below_cell hb4 z1)
              have u0 := after_cell y0; have u1 := after_cell y1
              refine wp_region_after (by kernel_rfl) (by kernel_rfl) ?_
              repeat (go_big_quiet_step (fail))
              refine wpQuiet_nil ?_
              rintro w5 ⟨⟨_, hb5⟩, rfl⟩
              go_wp2_with fail
              go_roundw
              case rel => exact ⟨k + 1, c.fault, c.codes.length, t, by omega, by go_num, rfl, rfl, rfl, hide (by rw [HS.out]; exact like_yes hst.out HT.out (by omega) (.inl HH.out)), by omega, by omega, by omega, by omega, by omega, below_step (below_step B3 hb4 (Nat.le_refl _)) hb5 (Nat.le_refl _)⟩
              case measure => simp [intOf]; omega
            · have h1' : ¬ (n : Int) < (c.codes.length : Int) := by omega
              by_cases h2 : c.codes.length = n
              · have h2' : ((c.codes.length : Int) == (n : Int)) = true := by simp; omega
                have H1 := hide h1; have H2 := hide h2; clear h2
                by_cases h3 : t < m
                · have H3 := hide h3
                  go_wp2_with (go_at_call 71; refine (detected_is (p := c.toPat) HT.out c.ca c.cc _ _ _ HR.out HPC.out R3.out D3.out).mono ?_; rintro e w4 ⟨rfl, hb4⟩; have y0 := below_cell hb4 z0; have y1 := below_cell hb4 z1)
                  have u0 := after_cell y0; have u1 := after_cell y1
                  refine wp_region_after (by kernel_rfl) (by kernel_rfl) ?_
                  repeat (go_big_quiet_step (fail))
                  refine wpQuiet_nil ?_
                  rintro w5 ⟨⟨_, hb5⟩, rfl⟩
                  go_wp2_with fail
                  go_roundw
                  case rel => exact ⟨k + 1, c.fault, c.codes.length, t, by omega, by go_num, rfl, rfl, rfl, hide (by rw [HS.out]; exact like_yes hst.out HT.out (by omega) (.inr ⟨H2.out, H3.out⟩)), by omega, by omega, by omega, by omega, by omega, below_step (below_step B3 hb4 (Nat.le_refl _)) hb5 (Nat.le_refl _)⟩
                  case measure => simp [intOf]; omega
                · have H3 := hide (show ¬ t < m from h3)
                  go_wp2_with (go_at_call 71; refine (detected_is (p := c.toPat) HT.out c.ca c.cc _ _ _ HR.out HPC.out R3.out D3.out).mono ?_; rintro e w4 ⟨rfl, hb4⟩; have y0 := below_cell hb4 z0; have y1 := below_cell hb4 z1)
                  go_roundw
                  case rel => exact ⟨k + 1, f, n, m, by omega, by go_num, rfl, rfl, rfl, hide (by rw [HS.out]; exact like_no hst.out HT.out (.inr ⟨by have := H2.out; omega, .inr (by have := H3.out; omega)⟩)), by omega, by omega, by omega, by omega, by omega, below_step B3 hb4 (Nat.le_refl _)⟩
                  case measure => simp [intOf]; omega
              · have h2' : ((c.codes.length : Int) == (n : Int)) = false := by simp; omega
                have H1 := hide h1; have H2 := hide h2; clear h2
                go_wp2_with (go_at_call 71; refine (detected_is (p := c.toPat) HT.out c.ca c.cc _ _ _ HR.out HPC.out R3.out D3.out).mono ?_; rintro e w4 ⟨rfl, hb4⟩; have y0 := below_cell hb4 z0; have y1 := below_cell hb4 z1)
                go_roundw
                case rel => exact ⟨k + 1, f, n, m, by omega, by go_num, rfl, rfl, rfl, hide (by rw [HS.out]; exact like_no hst.out HT.out (.inr ⟨by omega, .inl H2.out⟩)), by omega, by omega, by omega, by omega, by omega, below_step B3 hb4 (Nat.le_refl _)⟩
                case measure => simp [intOf]; omega
        · obtain rfl : k = L.length := by omega
          have HF := hide (show likeV R (Pattern.pats L) = f by rw [HV.out]; have := hst.out; rw [List.take_length] at this; rw [this])
          go_wp2_with fail
          go_ret2
          rw [HF.out]
          exact ⟨rfl, hbel⟩
set_option maxRecDepth 100000 in
set_option maxHeartbeats 4000000 in
theorem LikeliestFault_spec {L : List Pattern} {P : List Pat} (hPP : Pattern.pats L = P) (A0 A1 : Option Addr) (c0 c1 : Nat) (R : List Event) (w : World) (r0 : Rd Event.enc 2 w.heap.size w A0 R) (ok0 : ∀ c ∈ R, c.Ok) (l0 : R.length ≤ maxLen) (r1 : Rd Pattern.enc 3 w.heap.size w A1 L) (ok1 : ∀ c ∈ L, c.Ok) (l1 : L.length ≤ maxLen) (d1 : Pattern.DeepP w.heap.size w L) :
    Calls Try.prog 30 #[.slice A0 R.length c0, .slice A1 L.length c1] w fun e w' => e = .returned (.tuple #[.int .i64 (likeV R P), .bool (decide (0 < likeV R P))]) ∧ Below w.heap.size w w' := by
  subst hPP
  cases hR : recB R
  · have HV := hide (show likeV R (Pattern.pats L) = 0 by simp [likeV, hR])
    go_enter Try.func30, Try.ntmps30
    go_wp2_with (first | (go_at_call 54; refine (l20Record_is hR _ _ _ r0 ok0 l0).mono ?_; rintro e w1 ⟨rfl, hb1⟩; have B1 := hb1) | (go_at_call 59; refine (l20Patterns_is rfl hP _ _ _ (r1.later B1) ok1 l1 (d1.later B1)).mono ?_; rintro e w2 ⟨rfl, hb2⟩; have B2 := below_step B1 hb2 (Nat.le_refl _)))
    go_ret2
    rw [HV.out]
    exact ⟨rfl, B1⟩
  · have HZ0 := True.intro
    cases hP : patsB (Pattern.pats L)
    · have HV := hide (show likeV R (Pattern.pats L) = 0 by simp [likeV, hP])
      have HR := hide hR; clear hR
      go_enter Try.func30, Try.ntmps30
      go_wp2_with (first | (go_at_call 54; refine (l20Record_is HR.out _ _ _ r0 ok0 l0).mono ?_; rintro e w1 ⟨rfl, hb1⟩; have B1 := hb1) | (go_at_call 59; refine (l20Patterns_is rfl hP _ _ _ (r1.later B1) ok1 l1 (d1.later B1)).mono ?_; rintro e w2 ⟨rfl, hb2⟩; have B2 := below_step B1 hb2 (Nat.le_refl _)))
      go_ret2
      rw [HV.out]
      exact ⟨rfl, B2⟩
    · have HZ1 := True.intro
      have HV := hide (show likeV R (Pattern.pats L) = (likeC R L).1 by simp [likeV, hR, hP, likeC])
      have hlen := riseB_len hP
      rw [Pattern.pats, List.length_map] at hlen
      have HPB := hide (fun (c : Pattern) (hc : c ∈ L) => show patB c.toPat = true from by obtain ⟨j, hj, rfl⟩ := List.mem_iff_getElem.1 hc; exact riseB_one hP j _ (by simp [Pattern.pats, List.getElem?_eq_getElem hj]))
      have HDB := hide (fun (p : Pat) => show -1 ≤ detT R p ∧ detT R p ≤ 100000 from detUp_bd p hR R.length)
      have HR := hide hR; have HP := hide hP; clear hR hP
      go_enter Try.func30, Try.ntmps30
      go_wp2_with (first | (go_at_call 54; refine (l20Record_is HR.out _ _ _ r0 ok0 l0).mono ?_; rintro e w1 ⟨rfl, hb1⟩; have B1 := hb1) | (go_at_call 59; refine (l20Patterns_is rfl HP.out _ _ _ (r1.later B1) ok1 l1 (d1.later B1)).mono ?_; rintro e w2 ⟨rfl, hb2⟩; have B2 := below_step B1 hb2 (Nat.le_refl _)))
      go_loopw [7, 6] (fun i x wr => ∃ (k : Nat) (z : Int), k ≤ L.length ∧ i = .int .i64 k ∧ x = .int .i64 z ∧ Hid (z = -1 ∧ likeC R (L.take k) = (0, 0, 0) ∨ ∃ (j : Nat) (d : Pattern), z = j ∧ j < L.length ∧ L[j]? = some d ∧ 0 ≤ detT R d.toPat ∧ likeC R (L.take k) = (d.fault, d.codes.length, detT R d.toPat)) ∧ Below w.heap.size w wr) (fun i _ _ => L.length - (intOf i).toNat)
      case atStart => exact ⟨0, -1, Nat.zero_le _, rfl, rfl, hide (.inl ⟨rfl, rfl⟩), B2⟩
      case round =>
        obtain ⟨k, z, hk, rfl, rfl, hst, hbel⟩ := hrel
        by_cases hlt : k < L.length
        · obtain ⟨b, o, rfl, hb, hc⟩ := Pattern.rd_at r1 (by intro h; subst h; simp at hlt)
          have hget := List.getElem?_eq_getElem hlt
          obtain ⟨x0, x1, x2⟩ := hc k _ hget
          have hpb := HPB.out L[k] (List.getElem_mem hlt)
          have hdc := d1 L[k] (List.getElem_mem hlt)
          have HS := hide (@likeC_step R L k _ hget)
          have HGK := hide hget
          generalize L[k] = c at *
          obtain ⟨⟨pf0, pf9⟩, ⟨pl0, pl9⟩, _⟩ := patB_bd hpb
          have HPC := hide hpb; have HDC := hide hdc
          have htb := HDB.out c.toPat
          obtain ⟨t, ht⟩ : ∃ t, detT R c.toPat = t := ⟨_, rfl⟩
          rw [ht] at htb
          obtain ⟨ht0, ht9⟩ := htb
          have HT := hide ht
          clear hget hpb hdc ht
          replace x0 := below_cell hbel x0
          replace x1 := below_cell hbel x1
          replace x2 := below_cell hbel x2
          have hki : (k : Int) < (L.length : Int) := by omega
          have B3 := hbel
          have R3 := hide (r0.later B3); have D3 := hide (HDC.out.later B3)
          by_cases h0 : t < 0
          · have HH := hide h0
            have HST := hide (show (z = -1 ∧ likeC R (L.take (k + 1)) = (0, 0, 0) ∨ ∃ (j : Nat) (d : Pattern), z = j ∧ j < L.length ∧ L[j]? = some d ∧ 0 ≤ detT R d.toPat ∧ likeC R (L.take (k + 1)) = (d.fault, d.codes.length, detT R d.toPat)) by
              rw [HS.out]
              rcases hst.out with ⟨h1, h2⟩ | ⟨j, d, h1, h2, h3, h4, h5⟩
              · exact .inl ⟨h1, like_no h2 HT.out (.inl HH.out)⟩
              · exact .inr ⟨j, d, h1, h2, h3, h4, like_no h5 HT.out (.inl HH.out)⟩)
            clear hc
            go_wp2_with (go_at_call 70; refine (l20Detected_is (p := c.toPat) HT.out c.ca c.cc _ _ _ HR.out HPC.out R3.out D3.out).mono ?_; rintro e w4 ⟨rfl, hb4⟩)
            go_roundw
            case rel => exact ⟨k + 1, z, by omega, by go_num, rfl, HST, below_step B3 hb4 (Nat.le_refl _)⟩
            case measure => simp [intOf]; omega
          · have ht1 : 0 ≤ t := by omega
            rcases hst.out with ⟨hz, hl⟩ | ⟨j, d, hz, hj, hdg, hd0, hl⟩
            · subst hz
              have HL := hide hl; clear hl hst hc
              go_wp2_with (go_at_call 70; refine (l20Detected_is (p := c.toPat) HT.out c.ca c.cc _ _ _ HR.out HPC.out R3.out D3.out).mono ?_; rintro e w4 ⟨rfl, hb4⟩)
              refine wp_region_after (by kernel_rfl) (by kernel_rfl) ?_
              repeat (go_big_quiet_step (fail))
              refine wpQuiet_nil ?_
              rintro w5 ⟨⟨_, hb5⟩, rfl⟩
              go_wp2_with fail
              go_roundw
              case rel => exact ⟨k + 1, k, by omega, by go_num, rfl, hide (.inr ⟨k, c, rfl, hlt, HGK.out, by rw [HT.out]; exact ht1, by rw [HS.out, HT.out]; exact like_yes HL.out HT.out ht1 (.inl (by omega))⟩), below_step (below_step B3 hb4 (Nat.le_refl _)) hb5 (Nat.le_refl _)⟩
              case measure => simp [intOf]; omega
            · subst hz
              obtain ⟨e0, e1, e2⟩ := hc j d hdg
              replace e0 := below_cell hbel e0; replace e1 := below_cell hbel e1; replace e2 := below_cell hbel e2
              have hji : (j : Int) < (L.length : Int) := by omega
              have hj0 : decide ((j : Int) < 0) = false := by simp
              have DD := hide ((d1 d (List.mem_of_getElem? hdg)).later hbel)
              have HPD := hide (HPB.out d (List.mem_of_getElem? hdg))
              obtain ⟨m, hm⟩ : ∃ m, detT R d.toPat = m := ⟨_, rfl⟩
              have hmb := HDB.out d.toPat
              rw [hm] at hl hd0 hmb
              have HM := hide hm; have HL := hide hl; have HDG := hide hdg; clear hm hl hst hc hdg
              by_cases h1 : d.codes.length < c.codes.length
              · have h1' : decide ((d.codes.length : Int) < (c.codes.length : Int)) = true := by simp; omega
                have h1'' : decide (d.codes.length < c.codes.length) = true := by simp; omega
                have HH := hide h1; clear h1
                go_wp2_with (go_at_call 70; refine (l20Detected_is (p := c.toPat) HT.out c.ca c.cc _ _ _ HR.out HPC.out R3.out D3.out).mono ?_; rintro e w4 ⟨rfl, hb4⟩)
                have u0 := after_cell (below_cell hb4 e0); have u1 := after_cell (below_cell hb4 e1); have u2 := after_cell (below_cell hb4 e2); have v1 := after_cell (below_cell hb4 x1)
                refine wp_region_after (by kernel_rfl) (by kernel_rfl) ?_
                repeat (go_big_quiet_step ((go_at_call 70; exact Calls.after (l20Detected_is (p := d.toPat) HM.out d.ca d.cc _ _ _ HR.out HPD.out ((r0.later (below_step B3 hb4 (Nat.le_refl _))).later (Subtype.property _)) ((DD.out.later hb4).later (Subtype.property _))))))
                refine wpQuiet_nil ?_
                rintro w5 ⟨⟨_, hb5⟩, rfl⟩
                go_wp2_with fail
                go_roundw
                case rel => exact ⟨k + 1, k, by omega, by go_num, rfl, hide (.inr ⟨k, c, rfl, hlt, HGK.out, by rw [HT.out]; exact ht1, by rw [HS.out, HT.out]; exact like_yes HL.out HT.out ht1 (.inl HH.out)⟩), below_step (below_step B3 hb4 (Nat.le_refl _)) hb5 (Nat.le_refl _)⟩
                case measure => simp [intOf]; omega
              · have h1' : decide ((d.codes.length : Int) < (c.codes.length : Int)) = false := by simp; omega
                have h1'' : decide (d.codes.length < c.codes.length) = false := by simp; omega
                have H1 := hide h1; clear h1
                by_cases h2 : c.codes.length = d.codes.length
                · have h2' : ((c.codes.length : Int) == (d.codes.length : Int)) = true := by simp; omega
                  have H2 := hide h2; clear h2
                  by_cases h3 : t < m
                  · have h3' : decide (t < m) = true := by simp; omega
                    have H3 := hide h3; clear h3
                    go_wp2_with (go_at_call 70; refine (l20Detected_is (p := c.toPat) HT.out c.ca c.cc _ _ _ HR.out HPC.out R3.out D3.out).mono ?_; rintro e w4 ⟨rfl, hb4⟩)
                    have u0 := after_cell (below_cell hb4 e0); have u1 := after_cell (below_cell hb4 e1); have u2 := after_cell (below_cell hb4 e2); have v1 := after_cell (below_cell hb4 x1)
                    refine wp_region_after (by kernel_rfl) (by kernel_rfl) ?_
                    repeat (go_big_quiet_step ((go_at_call 70; exact Calls.after (l20Detected_is (p := d.toPat) HM.out d.ca d.cc _ _ _ HR.out HPD.out ((r0.later (below_step B3 hb4 (Nat.le_refl _))).later (Subtype.property _)) ((DD.out.later hb4).later (Subtype.property _))))))
                    refine wpQuiet_nil ?_
                    rintro w5 ⟨⟨_, hb5⟩, rfl⟩
                    go_wp2_with fail
                    go_roundw
                    case rel => exact ⟨k + 1, k, by omega, by go_num, rfl, hide (.inr ⟨k, c, rfl, hlt, HGK.out, by rw [HT.out]; exact ht1, by rw [HS.out, HT.out]; exact like_yes HL.out HT.out ht1 (.inr ⟨H2.out, H3.out⟩)⟩), below_step (below_step B3 hb4 (Nat.le_refl _)) hb5 (Nat.le_refl _)⟩
                    case measure => simp [intOf]; omega
                  · have h3' : decide (t < m) = false := by simp; omega
                    have H3 := hide (show ¬ t < m from h3); clear h3
                    go_wp2_with (go_at_call 70; refine (l20Detected_is (p := c.toPat) HT.out c.ca c.cc _ _ _ HR.out HPC.out R3.out D3.out).mono ?_; rintro e w4 ⟨rfl, hb4⟩)
                    have u0 := after_cell (below_cell hb4 e0); have u1 := after_cell (below_cell hb4 e1); have u2 := after_cell (below_cell hb4 e2); have v1 := after_cell (below_cell hb4 x1)
                    refine wp_region_after (by kernel_rfl) (by kernel_rfl) ?_
                    repeat (go_big_quiet_step ((go_at_call 70; exact Calls.after (l20Detected_is (p := d.toPat) HM.out d.ca d.cc _ _ _ HR.out HPD.out ((r0.later (below_step B3 hb4 (Nat.le_refl _))).later (Subtype.property _)) ((DD.out.later hb4).later (Subtype.property _))))))
                    refine wpQuiet_nil ?_
                    rintro w5 ⟨⟨_, hb5⟩, rfl⟩
                    go_wp2_with fail
                    go_roundw
                    case rel => exact ⟨k + 1, j, by omega, by go_num, rfl, hide (.inr ⟨j, d, rfl, hj, HDG.out, by rw [HM.out]; exact hd0, by rw [HS.out, HM.out]; exact like_no HL.out HT.out (.inr ⟨H1.out, .inr (by have := H3.out; omega)⟩)⟩), below_step (below_step B3 hb4 (Nat.le_refl _)) hb5 (Nat.le_refl _)⟩
                    case measure => simp [intOf]; omega
                · have h2' : ((c.codes.length : Int) == (d.codes.length : Int)) = false := by simp; omega
                  have H2 := hide h2; clear h2
                  go_wp2_with (go_at_call 70; refine (l20Detected_is (p := c.toPat) HT.out c.ca c.cc _ _ _ HR.out HPC.out R3.out D3.out).mono ?_; rintro e w4 ⟨rfl, hb4⟩)
                  have u0 := after_cell (below_cell hb4 e0); have u1 := after_cell (below_cell hb4 e1); have u2 := after_cell (below_cell hb4 e2); have v1 := after_cell (below_cell hb4 x1)
                  refine wp_region_after (by kernel_rfl) (by kernel_rfl) ?_
                  repeat (go_big_quiet_step ((go_at_call 70; exact Calls.after (l20Detected_is (p := d.toPat) HM.out d.ca d.cc _ _ _ HR.out HPD.out ((r0.later (below_step B3 hb4 (Nat.le_refl _))).later (Subtype.property _)) ((DD.out.later hb4).later (Subtype.property _))))))
                  refine wpQuiet_nil ?_
                  rintro w5 ⟨⟨_, hb5⟩, rfl⟩
                  go_wp2_with fail
                  go_roundw
                  case rel => exact ⟨k + 1, j, by omega, by go_num, rfl, hide (.inr ⟨j, d, rfl, hj, HDG.out, by rw [HM.out]; exact hd0, by rw [HS.out, HM.out]; exact like_no HL.out HT.out (.inr ⟨H1.out, .inl H2.out⟩)⟩), below_step (below_step B3 hb4 (Nat.le_refl _)) hb5 (Nat.le_refl _)⟩
                  case measure => simp [intOf]; omega
        · obtain rfl : k = L.length := by omega
          have hst' := hst.out
          rw [List.take_length] at hst'
          rcases hst' with ⟨hz, hl⟩ | ⟨j, d, hz, hj, hdg, hd0, hl⟩
          · subst hz
            have HF := hide (show likeV R (Pattern.pats L) = 0 by rw [HV.out, hl])
            clear hst hl
            go_wp2_with fail
            go_ret2
            rw [HF.out]
            exact ⟨rfl, hbel⟩
          · subst hz
            have HF := hide (show likeV R (Pattern.pats L) = d.fault by rw [HV.out, hl])
            obtain ⟨⟨pf0, pf9⟩, _⟩ := patB_bd (HPB.out d (List.mem_of_getElem? hdg))
            obtain ⟨b, o, rfl, hb, hc⟩ := Pattern.rd_at r1 (by intro h; subst h; simp at hj)
            obtain ⟨e0, e1, e2⟩ := hc j d hdg
            replace e0 := below_cell hbel e0
            have hji : (j : Int) < (L.length : Int) := by omega
            have hj0 : decide ((j : Int) < 0) = false := by simp
            clear hst hl hdg hc hd0
            go_wp2_with fail
            go_ret2
            rw [HF.out]
            exact ⟨ret_2 rfl (bo_eq (by simp; omega)), hbel⟩
end Go.Proofs.Ytmnepaedkilnoaa
