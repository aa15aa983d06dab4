/- BestEvacuation: the program's function and the reference's. Slices are as the reader gives them. -/
import Derived.Test.YtgfamaopplgfgaaBestP
import Derived.Test.YtgfamaopplgfgaaApp
import Derived.Test.YtgfamaopplgfgaaSetC
namespace Go.Proofs.Ytgfamaopplgfgaa
open Go Go.RowKit
set_option linter.unusedVariables false
set_option linter.unusedSimpArgs false
theorem own_zeros {T lo n : Nat} {w : World} (hlo : lo ≤ w.heap.size) (hn : n ≤ maxLen) : Own encI 1 T lo (w.alloc (.cells (madeCells #[.int .i64 0] n) T)) (.slice (some ⟨w.heap.size, 0, none⟩) n n) (List.replicate n 0) := by
  have hx : (List.replicate n (0 : Int)).flatMap encI = List.replicate n (Value.int .i64 0) := by
    induction n with
    | zero => rfl
    | succ m ih => rw [List.replicate_succ, List.flatMap_cons, ih (by omega), List.replicate_succ]; rfl
  have hl := World.ownsRow_lit (e := T) (size := 1) w (madeCells #[.int .i64 0] n) n hlo hn (by rw [size_madeCells, Nat.mul_one])
  rw [toList_madeCells_one, ← hx] at hl
  unfold Own
  rw [List.length_replicate]
  exact hl
theorem hmk_int (n : Nat) (hn : n ≤ 1048576) (W : World) : (Instr.makeSlice 26 (.int .i64 (n : Int)) (.int .i64 (n : Int))).run Try.prog W = .ok (.slice (some ⟨W.heap.size, 0, none⟩) n n) (W.alloc (.cells (madeCells #[.int .i64 0] n) 3)) := by
  obtain ⟨i0, hi, hz0, hz1, hz2⟩ := info_parts infoI
  have := run_make_rowN (P := Try.prog) 26 3 i0 _ Try.underlying26 hi hz0 .i64 .i64 n n (Nat.le_refl _) (by rw [hz2]; omega) (by omega) W
  rw [hz1, Nat.mul_one] at this
  exact this
theorem rd_src {α : Type} {enc : α → List Value} {sz B : Nat} {w : World} {A : Option Addr} {L : List α} (he : ∀ c, (enc c).length = sz) (hr : Rd enc sz B w A L) : ∀ ad, A = some ad → ∀ j u, (L.flatMap enc)[j]? = some u → w.cell? (ad.add j) = some u := by
  intro ad had j u hu
  have hL : L ≠ [] := by intro h; subst h; simp at hu
  obtain ⟨b, o, hA, _, hc⟩ := hr.at_ hL
  rw [hA] at had; injection had with had; subst had
  rw [Addr.add_mid]; exact rd_flat he L o hc j u hu
theorem rd_none {α : Type} {enc : α → List Value} {sz B : Nat} {w : World} {A : Option Addr} {L : List α} (hr : Rd enc sz B w A L) (h : A = none) : L.length = 0 := by
  rcases hr with h1 | ⟨b, o, hA, _⟩
  · rw [h1]; rfl
  · rw [h] at hA; cases hA
theorem pw_bd {c p : Nat} (hc1 : 1 ≤ c) (hc : c ≤ 3) (hp : p ≤ 6) : 1 ≤ c ^ p ∧ c ^ p ≤ 729 := by
  refine ⟨Nat.pow_pos hc1, ?_⟩
  have h1 : c ^ p ≤ 3 ^ p := Nat.pow_le_pow_left hc p
  have h2 : 3 ^ p ≤ 3 ^ 6 := Nat.pow_le_pow_right (by decide) hp
  exact Nat.le_trans h1 h2
theorem dg_set {c p t n : Nat} (ht : t < p) : (List.replicate (p - t) (0 : Int) ++ dg c t n).set (p - 1 - t) ((n / c ^ t % c : Nat) : Int) = List.replicate (p - (t + 1)) 0 ++ dg c (t + 1) n := by
  have e : p - t = (p - (t + 1)) + 1 := by omega
  have e2 : p - 1 - t = p - (t + 1) := by omega
  rw [e, e2, List.replicate_succ', List.append_assoc, List.set_append_right _ _ (by simp)]
  simp [dg]
theorem dg_at {c p t n : Nat} (ht : t < p) : (List.replicate (p - t) (0 : Int) ++ dg c t n)[p - 1 - t]? = some 0 := by
  rw [List.getElem?_append_left (by rw [List.length_replicate]; omega), List.getElem?_replicate, if_pos (by omega)]
theorem dg_zlen {c p t n : Nat} (ht : t ≤ p) : (List.replicate (p - t) (0 : Int) ++ dg c t n).length = p := by
  rw [List.length_append, List.length_replicate, dg_len]; omega
theorem timeI_le {L : List Support} {C : List Crew} {P S : List Int} (h : asB L C P S = true) : timeI L C P S ≤ 600000 := (timeUp_bd h C.length).2
theorem time_dg {L : List Support} {C : List Crew} {P S : List Int} {t : Int} {p : Nat} (hp : S.length = p) (ha : asB L C P S = true) (ht : timeI L C P S = t) (A0 A1 A2 A3 : Option Addr) (c0 c1 c2 c3 : Nat) (w : World) (r0 : Rd Support.enc 3 w.heap.size w A0 L) (r1 : Rd Crew.enc 3 w.heap.size w A1 C) (r2 : Rd encI 1 w.heap.size w A2 P) (r3 : Rd encI 1 w.heap.size w A3 S) :
    Calls Try.prog 57 #[.agg #[.slice A0 L.length c0, .slice A1 C.length c1, .slice A2 P.length c2], .slice A3 p c3] w fun e w' => e = .returned (.int .i64 t) ∧ Below w.heap.size w w' := by
  subst hp; subst ht; exact time_any L C P S A0 A1 A2 A3 c0 c1 c2 c3 w ha r0 r1 r2 r3
set_option maxRecDepth 100000 in
set_option maxHeartbeats 4000000 in
theorem BestEvacuation_any (L : List Support) (C : List Crew) (P : List Int) (A0 A1 A2 : Option Addr) (c0 c1 c2 : Nat) (w : World) (r0 : Rd Support.enc 3 w.heap.size w A0 L) (ok0 : ∀ c ∈ L, c.Ok) (l0 : L.length ≤ maxLen) (r1 : Rd Crew.enc 3 w.heap.size w A1 C) (l1 : C.length ≤ maxLen) (r2 : Rd encI 1 w.heap.size w A2 P) (l2 : P.length ≤ maxLen) :
    Calls Try.prog 16 #[.slice A0 L.length c0, .slice A1 C.length c1, .slice A2 P.length c2] w (Gives (bestL L C P).length (fun v => .tuple #[v, .int .i64 (bestT L C P), .bool (bestB L C P)]) (fun w' v => Own encI 1 3 w.heap.size w' v (bestL L C P)) w) := by
  have hba : Below w.heap.size w (w.alloc (.cells #[.slice A0 L.length c0, .slice A1 C.length c1, .slice A2 P.length c2] 82)) := (Below.refl _ _).alloc (Nat.le_refl _) _
  have z0 : (w.alloc (.cells #[.slice A0 L.length c0, .slice A1 C.length c1, .slice A2 P.length c2] 82)).cell? ⟨w.heap.size, 0, none⟩ = some (.slice A0 L.length c0) := (CF.new w #[.slice A0 L.length c0, .slice A1 C.length c1, .slice A2 P.length c2] 82 w.heap.size 0 _ rfl rfl).1
  have z1 : (w.alloc (.cells #[.slice A0 L.length c0, .slice A1 C.length c1, .slice A2 P.length c2] 82)).cell? ⟨w.heap.size, 1, none⟩ = some (.slice A1 C.length c1) := (CF.new w #[.slice A0 L.length c0, .slice A1 C.length c1, .slice A2 P.length c2] 82 w.heap.size 1 _ rfl rfl).1
  have z2 : (w.alloc (.cells #[.slice A0 L.length c0, .slice A1 C.length c1, .slice A2 P.length c2] 82)).cell? ⟨w.heap.size, 2, none⟩ = some (.slice A2 P.length c2) := (CF.new w #[.slice A0 L.length c0, .slice A1 C.length c1, .slice A2 P.length c2] 82 w.heap.size 2 _ rfl rfl).1
  have l0' := l0; have l1' := l1; have l2' := l2; unfold maxLen at l0' l1' l2'
  cases hg : goodR L C P
  · have HL := hide (show bestL L C P = [] by simp [bestL, bestB, hg])
    have HT := hide (show bestT L C P = 0 by simp [bestT, bestB, hg])
    have HB := hide (show bestB L C P = false from hg)
    go_enter Try.func16, Try.ntmps16
    go_wp2_with (go_at_call 56; refine (okR_is hg _ _ _ _ _ _ _ (r0.later hba) ok0 l0 (r1.later hba) l1 (r2.later hba) l2).mono ?_; rintro e w1 ⟨rfl, hb1⟩; have y0 := below_cell hb1 z0; have y1 := below_cell hb1 z1; have y2 := below_cell hb1 z2)
    go_ret3
    rw [HL.out, HT.out, HB.out]; exact ⟨none, 0, rfl, own_nil _ _ _, below_new' hb1⟩
  obtain ⟨hl, ⟨hc1, hc3⟩, hpl⟩ := goodR_len hg
  have hall := bestN_all L C P
  obtain ⟨N, hN⟩ : ∃ N, C.length ^ P.length = N := ⟨_, rfl⟩
  obtain ⟨hN1, hN9⟩ := pw_bd (p := P.length) hc1 hc3 (by omega)
  rw [hN] at hN1 hN9 hall
  have HL := hide (show bestL L C P = (bestN L C P N).1 by rw [hall, bestL, bestB, if_pos hg])
  have HT := hide (show bestT L C P = (bestN L C P N).2 by rw [hall, bestT, bestB, if_pos hg])
  have HB := hide (show bestB L C P = true from hg)
  have hmk := hmk_int P.length (by omega)
  have HG := hide hg; have HN := hide hN; clear hg hall hN
  go_enter Try.func16, Try.ntmps16
  go_wp2_with (go_at_call 56; refine (okR_is HG.out _ _ _ _ _ _ _ (r0.later hba) ok0 l0 (r1.later hba) l1 (r2.later hba) l2).mono ?_; rintro e w1 ⟨rfl, hb1⟩; have y0 := below_cell hb1 z0; have y1 := below_cell hb1 z1; have y2 := below_cell hb1 z2)
  have B1 : Below w.heap.size w w1 := below_new' hb1
  go_loop [26, 10] (fun i a => ∃ k : Nat, k ≤ P.length ∧ i = .int .i64 k ∧ a = .int .i64 ((C.length ^ k : Nat) : Int)) (fun i _ => P.length - (intOf i).toNat)
  case atStart => exact ⟨0, Nat.zero_le _, rfl, rfl⟩
  case round =>
    obtain ⟨k, hk, rfl, rfl⟩ := hrel
    by_cases hlt : k < P.length
    · have hki : (k : Int) < (P.length : Int) := by omega
      have hpb := pw_bd (p := k + 1) hc1 hc3 (by omega)
      have hpe : ((C.length ^ k : Nat) : Int) * (C.length : Int) = ((C.length ^ (k + 1) : Nat) : Int) := by rw [Nat.pow_succ, Int.natCast_mul]
      obtain ⟨q, hq⟩ : ∃ q, C.length ^ k = q := ⟨_, rfl⟩
      obtain ⟨q', hq'⟩ : ∃ q', C.length ^ (k + 1) = q' := ⟨_, rfl⟩
      rw [hq, hq'] at hpe; rw [hq'] at hpb; have HQ := hide hq'; rw [hq]; clear hq hq'
      obtain ⟨hp1, hp9⟩ := hpb
      go_wp2_with fail
      go_round
      case rel => exact ⟨k + 1, by omega, by go_num, by rw [HQ.out]⟩
      case measure => simp [intOf]; omega
    · obtain rfl : k = P.length := by omega
      rw [HN.out]
      go_wp2_with fail
      have hb2 : Below w1.heap.size w1 (w1.alloc (.cells #[] 3)) := (Below.refl _ _).alloc (Nat.le_refl _) _
      have hown0 : Own encI 1 3 w.heap.size (w1.alloc (.cells #[] 3)) (.slice (some ⟨w1.heap.size, 0, none⟩) 0 0) [] := own_empty B1.size
      go_loopw [35, 11, 12] (fun i b l wr => ∃ (k : Nat) (A' : Option Addr) (cap' : Nat) (B : List Int) (t : Int), k ≤ N ∧ i = .int .i64 k ∧ b = .slice A' B.length cap' ∧ l = .int .i64 t ∧ Hid (bestN L C P k = (B, t)) ∧ -1 ≤ t ∧ t ≤ 600000 ∧ Own encI 1 3 w.heap.size wr (.slice A' B.length cap') B ∧ Below w1.heap.size w1 wr) (fun i _ _ _ => N - (intOf i).toNat)
      case atStart => exact ⟨0, _, _, [], -1, Nat.zero_le _, rfl, rfl, rfl, hide rfl, by omega, by omega, hown0, hb2⟩
      case round =>
        clear hown0 hb2
        obtain ⟨k, A', cap', B, t0, hk, rfl, rfl, rfl, hbn, ht0, ht9, hown, hbel⟩ := hrel
        have BW := below_step B1 hbel (Nat.le_refl _)
        by_cases hlt : k < N
        · have hki : (k : Int) < (N : Int) := by omega
          have ho0 : Own encI 1 3 wr.heap.size (wr.alloc (.cells (madeCells #[.int .i64 0] P.length) 3)) (.slice (some ⟨wr.heap.size, 0, none⟩) P.length P.length) (List.replicate P.length 0) := own_zeros (Nat.le_refl _) l2
          have hb3 : Below wr.heap.size wr (wr.alloc (.cells (madeCells #[.int .i64 0] P.length) 3)) := (Below.refl _ _).alloc (Nat.le_refl _) _
          go_wp2_with fail
          go_loopw [15, 13] (fun x m wv => ∃ t : Nat, t ≤ P.length ∧ x = .int .i64 ((P.length : Int) - 1 - t) ∧ m = .int .i64 ((k / C.length ^ t : Nat) : Int) ∧ Own encI 1 3 wr.heap.size wv (.slice (some ⟨wr.heap.size, 0, none⟩) P.length P.length) (List.replicate (P.length - t) 0 ++ dg C.length t k) ∧ Below wr.heap.size wr wv) (fun x _ _ => (intOf x + 1).toNat)
          case atStart => exact ⟨0, Nat.zero_le _, by go_num, by simp, by simpa [dg] using ho0, hb3⟩
          case round =>
            clear ho0 hb3
            obtain ⟨t, ht, rfl, rfl, hown3, hb3⟩ := hrel
            by_cases htp : t < P.length
            · obtain ⟨j, hj⟩ : ∃ j : Nat, j = P.length - 1 - t := ⟨_, rfl⟩
              have hx : (P.length : Int) - 1 - t = (j : Int) := by omega
              rw [hx]
              have hzl := dg_zlen (c := C.length) (n := k) (Nat.le_of_lt htp)
              have yj := own_int hown3 hzl (dg_at htp)
              have hfz := own_int_frozen hown3 hzl (P.length - 1 - t)
              have hset := own_int_set hown3 hzl (k := P.length - 1 - t) (by omega) ((k / C.length ^ t % C.length : Nat) : Int)
              rw [dg_set htp] at hset
              rw [← hj] at yj hfz hset
              have hjp : (j : Int) < (P.length : Int) := by omega
              have hjt : (j : Int) = (P.length : Int) - 1 - (t : Int) := by omega
              have HJ := hide hjt; clear hj hx hjt
              have HS := hide hset; clear hset hzl hown3
              have hdd : k / C.length ^ t / C.length = k / C.length ^ (t + 1) := by rw [Nat.div_div_eq_div_mul, ← Nat.pow_succ]
              have hdl : k / C.length ^ t ≤ k := Nat.div_le_self _ _
              obtain ⟨q, hq⟩ : ∃ q, k / C.length ^ t = q := ⟨_, rfl⟩
              rw [hq] at hdd hdl ⊢; rw [hq] at HS
              have HD := hide hdd; clear hdd hq
              have hml : q % C.length < C.length := Nat.mod_lt _ hc1
              have hqq : q / C.length ≤ q := Nat.div_le_self _ _
              have m1 : (q : Int) % (C.length : Int) = ((q % C.length : Nat) : Int) := rfl
              have m2 : wrap64 ((q : Int) / (C.length : Int)) = ((q / C.length : Nat) : Int) := by rw [show (q : Int) / (C.length : Int) = ((q / C.length : Nat) : Int) from rfl]; generalize q / C.length = z at hqq; unfold wrap64; omega
              have M1 := hide m1; have M2 := hide m2; clear m1 m2
              have hc0 : ((C.length : Int) == 0) = false := beq_eq_false_iff_ne.2 (by omega)
              go_wp2_with fail
              go_roundw
              case rel => exact ⟨t + 1, by omega, by first | rfl | go_num | (have := HJ.out; congr 1; omega) | (have := HJ.out; go_num), by rw [← HD.out, M2.out], by rw [M1.out]; exact HS.out, hb3.setCell (p := ⟨_, j, none⟩) (Nat.le_refl _) _⟩
              case measure => simp [intOf] <;> omega
            · obtain rfl : t = P.length := by omega
              rw [Nat.sub_self, List.replicate_zero, List.nil_append] at hown3
              have hx : (P.length : Int) - 1 - P.length = -1 := by omega
              rw [hx]
              have y0 := below_cell hbel y0; have y1 := below_cell hbel y1; have y2 := below_cell hbel y2
              replace y0 := below_cell hb3 y0; replace y1 := below_cell hb3 y1; replace y2 := below_cell hb3 y2
              have ha := dg_as HG.out hc1 k
              have hv0 := timeI_nonneg L C P (dg C.length P.length k); have hv9 := timeI_le ha
              obtain ⟨v, hv⟩ : ∃ v, timeI L C P (dg C.length P.length k) = v := ⟨_, rfl⟩
              rw [hv] at hv0 hv9
              have HV := hide hv; have HA := hide ha; clear hv ha
              have BV := below_step BW hb3 (Nat.le_refl _)
              have R3 := Own.rd_of encI_len hown3
              have hkN : k < C.length ^ P.length := by rw [HN.out]; exact hlt
              by_cases hb : t0 < 0 ∨ v < t0
              · have HBN := hide (bestN_yes hc1 hkN hbn.out HV.out hb)
                have hfin : ∀ w4, Below w4.heap.size w4 w4 := fun _ => Below.refl _ _
                rcases (show t0 < 0 ∨ (¬ t0 < 0 ∧ v < t0) by omega) with h1 | ⟨h1, h2⟩
                all_goals
                  go_wp2_with (go_at_call 57; refine (time_dg (dg_len _ _ _) HA.out HV.out _ _ _ _ _ _ _ _ _ (r0.later BV) (r1.later BV) (r2.later BV) R3).mono ?_; rintro e w4 ⟨rfl, hb4⟩)
                  go_roundw
                  case rel => exact ⟨k + 1, _, _, dg C.length P.length k, v, by omega, by go_num, sl_eq (by rw [dg_len]), rfl, HBN, by omega, by omega, by rw [dg_len]; exact Own.mono_ (Own.below hown3 hb4) BW.size, below_step (below_step hbel hb3 (Nat.le_refl _)) hb4 (Nat.le_refl _)⟩
                  case measure => simp [intOf] <;> omega
              · have HBN := hide (bestN_no hc1 hkN hbn.out HV.out hb)
                obtain ⟨h1, h2⟩ : ¬ t0 < 0 ∧ ¬ v < t0 := by omega
                go_wp2_with (go_at_call 57; refine (time_dg (dg_len _ _ _) HA.out HV.out _ _ _ _ _ _ _ _ _ (r0.later BV) (r1.later BV) (r2.later BV) R3).mono ?_; rintro e w4 ⟨rfl, hb4⟩)
                go_roundw
                case rel => exact ⟨k + 1, A', cap', B, t0, by omega, by go_num, rfl, rfl, HBN, by omega, by omega, Own.below (Own.below hown hb3) hb4, below_step (below_step hbel hb3 (Nat.le_refl _)) hb4 (Nat.le_refl _)⟩
                case measure => simp [intOf] <;> omega
        · obtain rfl : k = N := by omega
          go_wp2_with fail
          go_ret3
          rw [HL.out, HT.out, HB.out, hbn.out]
          exact ⟨A', cap', rfl, hown, BW⟩
theorem l1Own_n {n : Nat} (M : List Int) (hn : M.length = n) (A : Option Addr) (cap lo : Nat) (w : World) (ho : Own encI 1 3 lo w (.slice A n cap) M) (hl : n ≤ 100) :
    Calls Try.prog 89 #[.slice A n cap] w fun e w' => ∃ A' cap', e = .returned (.slice A' n cap') ∧ Own encI 1 3 w.heap.size w' (.slice A' n cap') M ∧ Below w.heap.size w w' := by
  subst hn
  have hr := Own.rd_of encI_len ho
  have hba : Below w.heap.size w (w.alloc (.cells #[] 3)) := (Below.refl _ _).alloc (Nat.le_refl _) _
  go_enter Try.func89, Try.ntmps89
  go_wp2_with (at_builtin; refine wpList_app rfl (.tmp 3) (.tmp 4) 26 3 rfl Try.underlying26 infoI rfl (by omega) (by omega) encI_len encI_one w.heap.size _ 0 [] M A M.length cap 0 M.length rfl (by omega) rfl rfl rfl (rd_src encI_len (hr.later hba)) (fun h => ⟨rd_none hr h, own_nilcap ho h⟩) (own_empty (Nat.le_refl _)) (by simp) (by omega) ?_; intro A2 c2 w2 ho2 hb2 hg2)
  go_ret
  exact ⟨A2, c2, rfl, by simpa using ho2, hba.trans hb2⟩
set_option maxRecDepth 100000 in
set_option maxHeartbeats 4000000 in
theorem l19Best_any (L : List Support) (C : List Crew) (P : List Int) (A0 A1 A2 : Option Addr) (c0 c1 c2 : Nat) (hg : goodR L C P = true) : ∀ (r : Nat) (b : List Int) (n : Nat) (A3 : Option Addr) (c3 lo : Nat) (w : World), lo ≤ w.heap.size → Rd Support.enc 3 w.heap.size w A0 L → Rd Crew.enc 3 w.heap.size w A1 C → Rd encI 1 w.heap.size w A2 P → Own encI 1 3 lo w (.slice A3 n c3) b → b.length = n → n + r = P.length → (∀ x ∈ b, inB x 0 ((C.length : Int) - 1) = true) →
    Calls Try.prog 59 #[.slice A0 L.length c0, .slice A1 C.length c1, .slice A2 P.length c2, .slice A3 n c3] w fun e w' => ∃ (A : Option Addr) (cap : Nat), e = .returned (.tuple #[.slice A (bestR L C P r b).1.length cap, .int .i64 (bestR L C P r b).2]) ∧ Own encI 1 3 lo w' (.slice A (bestR L C P r b).1.length cap) (bestR L C P r b).1 ∧ Below w.heap.size w w'
  | 0, b, n, A3, c3, lo, w, hlo, r0, r1, r2, ho, hn, hr, hin => by
    obtain ⟨hl, ⟨hc1, hc3⟩, hpl⟩ := goodR_len hg
    subst hn
    have ha : asB L C P b = true := by simp only [asB, hg, Bool.true_and, Bool.and_eq_true, decide_eq_true_eq, List.all_eq_true]; exact ⟨by omega, hin⟩
    have he : ((b.length : Int) == (P.length : Int)) = true := by simp; omega
    have HA := hide ha; have HR := hide (bestR_zero L C P b); clear ha hin hg
    have R3 := Own.rd_of encI_len ho
    go_enter Try.func59, Try.ntmps59
    go_wp2_with (go_at_call 69; refine (l19Time_any L C P b _ _ _ _ _ _ _ _ _ HA.out r0 r1 r2 R3).mono ?_; rintro e w1 ⟨rfl, hb1⟩)
    go_ret2
    rw [HR.out]
    exact ⟨A3, c3, rfl, Own.below ho hb1, hb1⟩
  | r + 1, b, n, A3, c3, lo, w, hlo, r0, r1, r2, ho, hn, hr, hin => by
    have IH := hide (l19Best_any L C P A0 A1 A2 c0 c1 c2 hg r)
    subst hn
    obtain ⟨hl, ⟨hc1, hc3⟩, hpl⟩ := goodR_len hg
    have he : ((b.length : Int) == (P.length : Int)) = false := by simp; omega
    have HG := hide hg; have HIN := hide hin; clear hg hin
    go_enter Try.func59, Try.ntmps59
    go_wp2_with fail
    have hba : Below w.heap.size w (w.alloc (.cells #[] 3)) := (Below.refl _ _).alloc (Nat.le_refl _) _
    have hown0 : Own encI 1 3 lo (w.alloc (.cells #[] 3)) (.slice (some ⟨w.heap.size, 0, none⟩) 0 0) [] := own_empty hlo
    go_loopw [12, 10, 11] (fun i x y wr => ∃ (k : Nat) (A' : Option Addr) (cap' : Nat) (B : List Int) (t : Int), k ≤ C.length ∧ i = .int .i64 k ∧ x = .slice A' B.length cap' ∧ y = .int .i64 t ∧ Hid (bestU L C P r b k = (B, t)) ∧ Own encI 1 3 lo wr (.slice A' B.length cap') B ∧ Below w.heap.size w wr) (fun i _ _ _ => C.length - (intOf i).toNat)
    case atStart => exact ⟨0, _, _, [], -1, Nat.zero_le _, rfl, rfl, rfl, hide rfl, hown0, hba⟩
    case round =>
      clear hown0 hba
      obtain ⟨k, A', cap', B, t0, hk, rfl, rfl, rfl, hbn, hown, hbel⟩ := hrel
      by_cases hlt : k < C.length
      · have hki : (k : Int) < (C.length : Int) := by omega
        have hws := hbel.size
        have HST := hide (bestU_step (L := L) hc1 P b r k)
        have hkin : ∀ x ∈ b ++ [(k : Int)], inB x 0 ((C.length : Int) - 1) = true := fun x hx => by
          rcases List.mem_append.1 hx with hx | hx
          · exact HIN.out x hx
          · obtain rfl : x = (k : Int) := by simpa using hx
            exact inB_iff.2 ⟨by omega, by omega⟩
        have HKI := hide hkin; clear hkin
        have hbl : (b ++ [(k : Int)]).length = b.length + 1 := by simp
        have HBL := hide hbl; clear hbl
        obtain ⟨G, v, hgv⟩ : ∃ G v, bestR L C P r (b ++ [(k : Int)]) = (G, v) := ⟨_, _, rfl⟩
        have HGV := hide hgv; clear hgv
        have hob := Own.below ho hbel
        by_cases hb : t0 < 0 ∨ v < t0
        · have HBN := hide (show bestU L C P r b (k + 1) = (G, v) by rw [HST.out, HGV.out, hbn.out]; exact if_pos hb)
          rcases (show t0 < 0 ∨ (¬ t0 < 0 ∧ v < t0) by omega) with h1 | ⟨h1, h2⟩
          all_goals
            go_wp2_with (first | (go_at_call 89; refine (l1Own_n b rfl _ _ _ _ hob (by omega)).mono ?_; rintro e w2 ⟨A4, c4, rfl, ho4, hb4⟩; have hs4 := hb4.size) | (at_builtin; refine wpList_push _ rfl (.tmp 38) (.tmp 40) 26 3 rfl Try.underlying26 infoI rfl (by omega) (by omega) encI_len encI_one wr.heap.size A4 c4 b (k : Int) _ rfl rfl _ rfl (by first | rfl | simp) (by first | exact ho4 | fail) (by first | omega | (simp; omega)) (by omega) ?_; intro A5 c5 w5 ho5 hb5; have B5 := below_step hbel (hb4.trans hb5) (Nat.le_refl _); have hs5 := B5.size) | (go_at_call 59; refine (IH.out (b ++ [(k : Int)]) (b.length + 1) A5 c5 wr.heap.size w5 (by have := hb5.size; omega) (r0.later B5) (r1.later B5) (r2.later B5) (by first | exact ho5 | (rw [HBL.out] at ho5; exact ho5) | (rw [List.length_append, List.length_singleton] at ho5; exact ho5)) HBL.out (by omega) HKI.out).mono ?_; rw [HGV.out]; rintro e w6 ⟨A6, c6, rfl, ho6, hb6⟩))
            go_roundw
            case rel => exact ⟨k + 1, A6, c6, G, v, by omega, by go_num, rfl, rfl, HBN, Own.mono_ ho6 (by omega), below_step B5 hb6 (Nat.le_refl _)⟩
            case measure => simp [intOf] <;> omega
        · have HBN := hide (show bestU L C P r b (k + 1) = (B, t0) by rw [HST.out, HGV.out, hbn.out]; exact if_neg hb)
          obtain ⟨h1, h2⟩ : ¬ t0 < 0 ∧ ¬ v < t0 := by omega
          go_wp2_with (first | (go_at_call 89; refine (l1Own_n b rfl _ _ _ _ hob (by omega)).mono ?_; rintro e w2 ⟨A4, c4, rfl, ho4, hb4⟩; have hs4 := hb4.size) | (at_builtin; refine wpList_push _ rfl (.tmp 38) (.tmp 40) 26 3 rfl Try.underlying26 infoI rfl (by omega) (by omega) encI_len encI_one wr.heap.size A4 c4 b (k : Int) _ rfl rfl _ rfl (by first | rfl | simp) (by first | exact ho4 | fail) (by first | omega | (simp; omega)) (by omega) ?_; intro A5 c5 w5 ho5 hb5; have B5 := below_step hbel (hb4.trans hb5) (Nat.le_refl _); have hs5 := B5.size) | (go_at_call 59; refine (IH.out (b ++ [(k : Int)]) (b.length + 1) A5 c5 wr.heap.size w5 (by have := hb5.size; omega) (r0.later B5) (r1.later B5) (r2.later B5) (by first | exact ho5 | (rw [HBL.out] at ho5; exact ho5) | (rw [List.length_append, List.length_singleton] at ho5; exact ho5)) HBL.out (by omega) HKI.out).mono ?_; rw [HGV.out]; rintro e w6 ⟨A6, c6, rfl, ho6, hb6⟩))
          go_roundw
          case rel => exact ⟨k + 1, A', cap', B, t0, by omega, by go_num, rfl, rfl, HBN, Own.below (Own.below hown (hb4.trans hb5)) hb6, below_step B5 hb6 (Nat.le_refl _)⟩
          case measure => simp [intOf] <;> omega
      · obtain rfl : k = C.length := by omega
        have HF := hide (show bestR L C P (r + 1) b = (B, t0) by rw [← bestU_all]; exact hbn.out)
        go_wp2_with fail
        go_ret2
        rw [HF.out]
        exact ⟨A', cap', rfl, hown, hbel⟩
set_option maxHeartbeats 2000000 in
theorem BestEvacuation_spec (L : List Support) (C : List Crew) (P : List Int) (A0 A1 A2 : Option Addr) (c0 c1 c2 : Nat) (w : World) (r0 : Rd Support.enc 3 w.heap.size w A0 L) (ok0 : ∀ c ∈ L, c.Ok) (l0 : L.length ≤ maxLen) (r1 : Rd Crew.enc 3 w.heap.size w A1 C) (l1 : C.length ≤ maxLen) (r2 : Rd encI 1 w.heap.size w A2 P) (l2 : P.length ≤ maxLen) :
    Calls Try.prog 17 #[.slice A0 L.length c0, .slice A1 C.length c1, .slice A2 P.length c2] w (Gives (bestL L C P).length (fun v => .tuple #[v, .int .i64 (bestT L C P), .bool (bestB L C P)]) (fun w' v => Own encI 1 3 w.heap.size w' v (bestL L C P)) w) := by
  have l1h := hide l1; have l2h := hide l2
  cases hg : goodR L C P
  · have HL := hide (show bestL L C P = [] by simp [bestL, bestB, hg])
    have HT := hide (show bestT L C P = 0 by simp [bestT, bestB, hg])
    have HB := hide (show bestB L C P = false from hg)
    go_enter Try.func17, Try.ntmps17
    go_wp2_with (go_at_call 58; refine (l19Good_is hg _ _ _ _ _ _ _ r0 ok0 l0 r1 l1h.out r2 l2h.out).mono ?_; rintro e w1 ⟨rfl, hb1⟩)
    go_ret3
    rw [HL.out, HT.out, HB.out]; exact ⟨_, _, rfl, own_empty hb1.size, below_step hb1 ((Below.refl _ _).alloc (Nat.le_refl _) _) (Nat.le_refl _)⟩
  have HL := hide (show bestL L C P = (bestR L C P P.length []).1 by rw [bestL, bestB, if_pos hg])
  have HT := hide (show bestT L C P = (bestR L C P P.length []).2 by rw [bestT, bestB, if_pos hg])
  have HB := hide (show bestB L C P = true from hg)
  have HG := hide hg; clear hg
  go_enter Try.func17, Try.ntmps17
  go_wp2_with (first | (go_at_call 58; refine (l19Good_is HG.out _ _ _ _ _ _ _ r0 ok0 l0 r1 l1h.out r2 l2h.out).mono ?_; rintro e w1 ⟨rfl, hb1⟩; have B1 : Below w.heap.size w (w1.alloc (.cells #[] 3)) := hb1.alloc hb1.size _) | (go_at_call 59; refine (l19Best_any L C P _ _ _ _ _ _ HG.out P.length [] 0 _ _ w.heap.size _ B1.size (r0.later B1) (r1.later B1) (r2.later B1) (own_empty hb1.size) rfl (by omega) (fun x hx => by cases hx)).mono ?_; rw [← HL.out, ← HT.out]; rintro e w2 ⟨A2', c2', rfl, ho2, hb2⟩))
  go_ret3
  rw [HB.out]
  exact ⟨A2', c2', rfl, ho2, below_step B1 hb2 (Nat.le_refl _)⟩
end Go.Proofs.Ytgfamaopplgfgaa
