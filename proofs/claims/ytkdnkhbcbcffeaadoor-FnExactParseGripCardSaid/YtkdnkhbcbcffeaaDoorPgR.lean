/- The words of a text, and the number in a text: the reference's l1Split and l1Read, the program's ParseInt (with the library's Atoi and Itoa by the shelf). The table of powers and the variable ErrSyntax are as the row's list says. -/
import Derived.Test.YtkdnkhbcbcffeaaDoorPgP
import Derived.Test.YtkdnkhbcbcffeaaDoorStrs
import Derived.Test.YtkdnkhbcbcffeaaDoorNum
import Derived.Deep.DeepCutAuto
namespace Go.Proofs.YtkdnkhbcbcffeaaDoor
open Go Go.RowKit
set_option linter.unusedVariables false
set_option linter.unusedSimpArgs false
theorem ba_ne {x s : ByteArray} (h : ¬ x = s) : (x.toList == s.toList) = false := by
  rw [beq_eq_false_iff_ne, ByteArray.toList_eq, ByteArray.toList_eq]
  exact fun e => h (ByteArray.ext (Array.toList_inj.mp e))
theorem ext_list (s : ByteArray) (f k : Nat) (h : f ≤ k) : (⟨((s.data.toList.drop f).take (k - f)).toArray⟩ : ByteArray) = s.extract f k := by
  apply ByteArray.ext
  rw [ByteArray.data_extract]
  apply Array.ext'
  simp [List.extract_eq_take_drop]
theorem list_at (s : ByteArray) (k : Nat) (h : k < s.size) : s.data.toList.drop k = s[k] :: s.data.toList.drop (k + 1) := by
  have hl : k < s.data.toList.length := by simpa using h
  rw [List.drop_eq_getElem_cons hl]
  rfl
theorem cur_more (s : ByteArray) (f k : Nat) (hf : f ≤ k) (h : k < s.size) : (s.data.toList.drop f).take (k + 1 - f) = (s.data.toList.drop f).take (k - f) ++ [s[k]] := by
  have hl : k < s.data.toList.length := by simpa using h
  rw [show k + 1 - f = (k - f) + 1 by omega, List.take_succ_eq_append_getElem (by rw [List.length_drop]; omega)]
  congr 2
  rw [List.getElem_drop]
  have : f + (k - f) = k := by omega
  simp only [this]
  rfl
theorem u8_is {c : UInt8} {n : Nat} (hn : n < 256) (h : (c.toNat : Int) = n) : c = UInt8.ofNat n := by
  apply UInt8.toNat_inj.1
  rw [UInt8.toNat_ofNat']; omega
theorem spl_sep {s : ByteArray} {R : List ByteArray} {f k : Nat} (hf : f ≤ k) (h : k < s.size) (hc : (s[k].toNat : Int) = 32) : spF 32 R ((s.data.toList.drop f).take (k - f)) (s.data.toList.drop k) = spF 32 (R ++ [s.extract f k]) ((s.data.toList.drop (k + 1)).take (k + 1 - (k + 1))) (s.data.toList.drop (k + 1)) := by
  have hc2 : s[k] = 32 := u8_is (n := 32) (by decide) hc
  rw [list_at s k h, spF, if_pos hc2, ext_list s f k hf]
  simp
theorem spl_let {s : ByteArray} {R : List ByteArray} {f k : Nat} (hf : f ≤ k) (h : k < s.size) (hc : ¬ (s[k].toNat : Int) = 32) : spF 32 R ((s.data.toList.drop f).take (k - f)) (s.data.toList.drop k) = spF 32 R ((s.data.toList.drop f).take (k + 1 - f)) (s.data.toList.drop (k + 1)) := by
  have hc2 : ¬ s[k] = 32 := by intro e; rw [e] at hc; exact hc (by decide)
  rw [list_at s k h, spF, if_neg hc2, cur_more s f k hf h]
theorem spl_end {s : ByteArray} {R : List ByteArray} {f k : Nat} (hf : f ≤ k) (h : k = s.size) : spF 32 R ((s.data.toList.drop f).take (k - f)) (s.data.toList.drop k) = R ++ [s.extract f s.size] := by
  subst h
  rw [List.drop_of_length_le (by simp : s.data.toList.length ≤ s.size), spF, ext_list s f s.size hf]
set_option maxRecDepth 100000 in
set_option maxHeartbeats 1000000 in
theorem l1Split_any (s : ByteArray) (w : World) (hs : s.size ≤ 1048576) :
    Calls Tryd.prog 15 #[.string s, .int .u8 32] w fun e w' => ∃ (A : Option Addr) (cap : Nat), e = .returned (.slice A (splL s).length cap) ∧ Own encS 1 9 w.heap.size w' (.slice A (splL s).length cap) (splL s) ∧ Below w.heap.size w w' := by
  have hown : Own encS 1 9 w.heap.size (w.alloc (.cells #[] 9)) (.slice (some ⟨w.heap.size, 0, none⟩) 0 0) ([] : List ByteArray) := own_empty (Nat.le_refl _)
  have hb0 : Below w.heap.size w (w.alloc (.cells #[] 9)) := (Below.refl _ _).alloc (Nat.le_refl _) _
  go_enter Tryd.func15, Tryd.ntmps15
  go_wp2_with fail
  go_loopw [7, 6, 5] (fun i fr o wr => ∃ (k f cap : Nat) (A : Option Addr) (R : List ByteArray), k ≤ s.size ∧ f ≤ k ∧ i = .int .i64 k ∧ fr = .int .i64 f ∧ o = .slice A R.length cap ∧ R.length ≤ k ∧ Hid (spF 32 R ((s.data.toList.drop f).take (k - f)) (s.data.toList.drop k) = splL s) ∧ Own encS 1 9 w.heap.size wr (.slice A R.length cap) R ∧ Below w.heap.size w wr) (fun i _ _ _ => s.size - (intOf i).toNat)
  case atStart => exact ⟨0, 0, _, _, [], Nat.zero_le _, Nat.le_refl _, rfl, rfl, rfl, Nat.zero_le _, hide (by simp [splL]), hown, hb0⟩
  case round =>
    clear hown hb0
    obtain ⟨k, f, cap, A, R, hk, hfk, rfl, rfl, rfl, hRk, HS, hown, hbel⟩ := hrel
    by_cases hlt : k < s.size
    · have hki : (k : Int) < (s.size : Int) := by omega
      have hfi : (f : Int) ≤ (k : Int) := by omega
      by_cases hc : (s[k].toNat : Int) = 32
      · have hcb : ((s[k].toNat : Int) == 32) = true := by simpa using hc
        have HN := hide ((spl_sep (R := R) hfk hlt hc).symm.trans HS.out)
        go_wp2_with (at_builtin; refine wpList_push _ rfl (.tmp 20) (.tmp 25) 35 9 rfl Tryd.underlying35 infoS rfl (by omega) (by omega) encS_len encS_one w.heap.size _ _ R (s.extract f k) _ rfl rfl _ rfl rfl hown hbel.size (by omega) ?_; intro A5 cap5 w5 ho5 hb5)
        go_roundw
        case rel => exact ⟨k + 1, k + 1, _, _, R ++ [s.extract f k], by omega, Nat.le_refl _, by go_num, by go_num, by rw [List.length_append]; rfl, by simp; omega, HN, by rw [List.length_append]; exact ho5, hbel.trans hb5⟩
        case measure => simp [intOf] <;> omega
      · have hcb : ((s[k].toNat : Int) == 32) = false := by simpa using hc
        have HN := hide ((spl_let (R := R) hfk hlt hc).symm.trans HS.out)
        go_wp2_with fail
        go_roundw
        case rel => exact ⟨k + 1, f, _, _, R, by omega, by omega, by go_num, rfl, rfl, by omega, HN, hown, hbel⟩
        case measure => simp [intOf] <;> omega
    · have hke : k = s.size := by omega
      have HN := hide ((spl_end (R := R) hfk hke).symm.trans HS.out)
      have hfi : (f : Int) ≤ (s.size : Int) := by omega
      go_wp2_with (at_builtin; refine wpList_push _ rfl (.tmp 29) (.tmp 33) 35 9 rfl Tryd.underlying35 infoS rfl (by omega) (by omega) encS_len encS_one w.heap.size _ _ R (s.extract f s.size) _ rfl rfl _ rfl rfl hown hbel.size (by omega) ?_; intro A5 cap5 w5 ho5 hb5)
      go_ret
      exact ⟨_, _, by rw [← HN.out, List.length_append]; rfl, by rw [← HN.out, List.length_append]; exact ho5, hbel.trans hb5⟩
theorem byte_in (t : ByteArray) (k : Nat) (h : k < t.size) : t[k] ∈ t.data.toList := by
  rw [ByteArray.getElem_eq_getElem_data]; simp
theorem num_dig {t : ByteArray} {k : Nat} (h : k < t.size) (hc : ¬ (48 ≤ (t[k].toNat : Int) ∧ (t[k].toNat : Int) ≤ 57)) : ∀ m : Int, 0 ≤ m → m ≤ 999999 → t = numB m → False := fun m h0 h1 e => by
  obtain ⟨a, _⟩ := numB_fact h0 h1
  rw [← e] at a
  have := a _ (byte_in t k h)
  omega
theorem num_size {t : ByteArray} (hc : ¬ (1 ≤ (t.size : Int) ∧ (t.size : Int) ≤ 6)) : ∀ m : Int, 0 ≤ m → m ≤ 999999 → t = numB m → False := fun m h0 h1 e => by
  obtain ⟨_, _, c, d⟩ := numB_fact h0 h1
  rw [← e] at c d
  have : t.size = t.data.toList.length := by simp
  have : t.data.toList.length ≠ 0 := by intro h; exact c (List.eq_nil_of_length_eq_zero h)
  omega
theorem num_neg {s : ByteArray} (h : 0 < s.size) (hc : (s[0].toNat : Int) = 45) : ∀ m : Int, 0 ≤ m → m ≤ 999999 → s = numB m → False := num_dig h (by omega)
theorem dec_step {t : ByteArray} {k : Nat} {n : Int} (h : k < t.size) (h0 : 0 ≤ n) (hd : Lib.decFrom 0 (t.data.toList.take k) = some n.toNat) (hc : 48 ≤ (t[k].toNat : Int) ∧ (t[k].toNat : Int) ≤ 57) : Lib.decFrom 0 (t.data.toList.take (k + 1)) = some (10 * n + ((t[k].toNat : Int) - 48)).toNat := by
  rw [take_snoc t k h, decFrom_app _ _ _ _ hd]
  simp only [Lib.decFrom, dig_val (c := t[k]) (by omega)]
  congr 1; omega
theorem dec_end {t : ByteArray} {n : Int} (h0 : 0 ≤ n) (hd : Lib.decFrom 0 (t.data.toList.take t.size) = some n.toNat) : ∀ m : Int, 0 ≤ m → m ≤ 999999 → t = numB m → n = m := fun m m0 m1 e => by
  obtain ⟨_, b, _⟩ := numB_fact m0 m1
  rw [List.take_of_length_le (by simp), e, b] at hd
  injection hd with hd
  omega
def p10 (k : Nat) : Int := ((10 ^ k : Nat) : Int)
theorem p10_step (k : Nat) : p10 (k + 1) = 10 * p10 k := by unfold p10; rw [Nat.pow_succ]; omega
theorem p10_le {k : Nat} (h : k ≤ 6) : 1 ≤ p10 k ∧ p10 k ≤ 1000000 := by
  rcases (by omega : k = 0 ∨ k = 1 ∨ k = 2 ∨ k = 3 ∨ k = 4 ∨ k = 5 ∨ k = 6) with rfl | rfl | rfl | rfl | rfl | rfl | rfl <;> decide
set_option maxHeartbeats 1000000 in
theorem l1Num_neg (n : Int) (w : World) (h0 : n < 0) (h1 : -999999 ≤ n) : Calls Tryd.prog 23 #[.int .i64 n] w fun e w' => ∃ x, e = .returned (.string x) ∧ Below w.heap.size w w' := by
  have hw0 : IntKind.i64.wrap (-n) = -n := by rw [IntKind.wrap_i64]; omega
  have hsz := numB_size (n := -n) (by omega) (by omega)
  go_enter Tryd.func23, Tryd.ntmps23
  go_wp2_with (go_at_call 23; refine (l1Num_any (-n) _ (by omega) (by omega)).mono ?_; rintro e w1 ⟨rfl, hb1⟩)
  go_ret
  exact ⟨_, rfl, hb1⟩
theorem l1Num_all (n : Int) (w : World) (h0 : -999999 ≤ n) (h1 : n ≤ 999999) : Calls Tryd.prog 23 #[.int .i64 n] w fun e w' => ∃ x, e = .returned (.string x) ∧ (0 ≤ n → x = numB n) ∧ Below w.heap.size w w' := by
  by_cases h : n < 0
  · exact (l1Num_neg n w h h0).mono fun e w' ⟨x, he, hb⟩ => ⟨x, he, fun h2 => by omega, hb⟩
  · exact (l1Num_any n w (by omega) (by omega)).mono fun e w' ⟨he, hb⟩ => ⟨_, he, fun _ => rfl, hb⟩
def ReadPost (s : ByteArray) (w : World) (e : Ending) (w' : World) : Prop := ∃ (n : Int) (b : Bool), e = .returned (.tuple #[.int .i64 n, .bool b]) ∧ (∀ m : Int, 0 ≤ m → m ≤ 999999 → s = numB m → n = m) ∧ Below w.heap.size w w'
set_option maxRecDepth 100000 in
set_option maxHeartbeats 2000000 in
theorem l1Read_any (s : ByteArray) (w : World) (hs : s.size ≤ 1048576) : Calls Tryd.prog 16 #[.string s] w (ReadPost s w) := by
  by_cases h1 : (1 : Int) < (s.size : Int)
  · have hz : 0 < s.size := by omega
    have hz2 : (0 : Int) < (s.size : Int) := by omega
    by_cases h45 : (s[0].toNat : Int) = 45
    · have hcb : ((s[0].toNat : Int) == 45) = true := by simpa using h45
      have HV := hide (num_neg hz h45)
      have hls0 : ((s.extract 1 s.size).size : Int) < (s.size : Int) := by simp; omega
      have ht := hide (show (s.extract 1 s.size) = s.extract 1 s.size from rfl)
      go_enter Tryd.func16, Tryd.ntmps16
      go_upto_region 4 with fail
      generalize hT : s.extract 1 s.size = T at *
      clear hT ht
      cases hi0 : inB (T.size : Int) 1 6
      · have hi := hide hi0
        have hnot : ¬ (1 ≤ (T.size : Int) ∧ (T.size : Int) ≤ 6) := by rw [← inB_iff]; simp [hi0]
        have HN := hide hnot; clear hi0 hnot
        go_wp2_with (go_at_call 20; refine (l1In_is hi.out _).mono ?_; rintro e w' ⟨rfl, rfl⟩)
        go_ret2
        exact ⟨0, false, rfl, fun m m0 m1 e => (HV.out m m0 m1 e).elim, Below.refl _ _⟩
      have hi := hide hi0
      obtain ⟨hz1, hz6⟩ := inB_iff.1 hi0; clear hi0
      go_wp2_with (go_at_call 20; refine (l1In_is hi.out _).mono ?_; rintro e w' ⟨rfl, rfl⟩)
      go_loop [6, 5] (fun i x => ∃ (k : Nat) (n : Int), k ≤ T.size ∧ i = .int .i64 k ∧ x = .int .i64 n ∧ 0 ≤ n ∧ n ≤ 999999 ∧ Hid (n < p10 k) ∧ Hid (Lib.decFrom 0 (T.data.toList.take k) = some n.toNat)) (fun i _ => T.size - (intOf i).toNat)
      case atStart => exact ⟨0, 0, Nat.zero_le _, rfl, rfl, by omega, by omega, hide (by decide), hide (by simp [Lib.decFrom])⟩
      case round =>
        obtain ⟨k, n, hk, rfl, rfl, n0, n1, HP, HD⟩ := hrel
        by_cases hlt : k < T.size
        · have hki : (k : Int) < (T.size : Int) := by omega
          by_cases h1 : (T[k].toNat : Int) < 48
          · have HN := hide (show ¬ (48 ≤ (T[k].toNat : Int) ∧ (T[k].toNat : Int) ≤ 57) by omega)
            go_wp2_with fail
            go_ret2
            exact ⟨0, false, rfl, fun m m0 m1 e => (HV.out m m0 m1 e).elim, Below.refl _ _⟩
          by_cases h2 : 57 < (T[k].toNat : Int)
          · have HN := hide (show ¬ (48 ≤ (T[k].toNat : Int) ∧ (T[k].toNat : Int) ≤ 57) by omega)
            go_wp2_with fail
            go_ret2
            exact ⟨0, false, rfl, fun m m0 m1 e => (HV.out m m0 m1 e).elim, Below.refl _ _⟩
          have HST := hide (dec_step hlt n0 HD.out ⟨by omega, by omega⟩)
          obtain ⟨q0, q1⟩ := p10_le (show k + 1 ≤ 6 by omega)
          have hps := p10_step k; have hpn := HP.out
          have hd0 : 0 ≤ 10 * n + ((T[k].toNat : Int) - 48) := by omega
          have hd1 : 10 * n + ((T[k].toNat : Int) - 48) < p10 (k + 1) := by omega
          have hd2 : 10 * n + ((T[k].toNat : Int) - 48) ≤ 999999 := by omega
          have HP2 := hide hd1; clear hps hpn hd1 q0 q1
          go_wp2_with fail
          go_round
          case rel => exact ⟨k + 1, _, by omega, by go_num, rfl, hd0, hd2, HP2, HST⟩
          case measure => simp [intOf]; omega
        · obtain rfl : k = T.size := by omega
          have hls : (T.size : Int) < (s.size : Int) := by omega
          have hwn : IntKind.i64.wrap (-n) = -n := by rw [IntKind.wrap_i64]; omega
          go_wp2_with fail
          refine (l1Num_all (-n) _ (by omega) (by omega)).mono ?_
          rintro e w1 ⟨x, rfl, hx, hb1⟩
          have HX := hide hx; clear hx
          by_cases hne : x = s
          · have hq1 : (x.toList == s.toList) = true := by simp [hne]
            have HNE := hide hne; clear hne
            go_wp2_with fail
            go_ret2
            exact ⟨_, true, rfl, fun m m0 m1 e => (HV.out m m0 m1 e).elim, hb1⟩
          · have hq1 : (x.toList == s.toList) = false := ba_ne hne
            have HNE := hide hne; clear hne
            go_wp2_with fail
            go_ret2
            exact ⟨0, false, rfl, fun m m0 m1 e => (HV.out m m0 m1 e).elim, hb1⟩
    · have hcb : ((s[0].toNat : Int) == 45) = false := by simpa using h45
      go_enter Tryd.func16, Tryd.ntmps16
      go_upto_region 4 with fail
      cases hi0 : inB (s.size : Int) 1 6
      · have hi := hide hi0
        have hnot : ¬ (1 ≤ (s.size : Int) ∧ (s.size : Int) ≤ 6) := by rw [← inB_iff]; simp [hi0]
        have HN := hide hnot; clear hi0 hnot
        go_wp2_with (go_at_call 20; refine (l1In_is hi.out _).mono ?_; rintro e w' ⟨rfl, rfl⟩)
        go_ret2
        exact ⟨0, false, rfl, fun m m0 m1 e => (num_size HN.out m m0 m1 e).elim, Below.refl _ _⟩
      have hi := hide hi0
      obtain ⟨hz1, hz6⟩ := inB_iff.1 hi0; clear hi0
      go_wp2_with (go_at_call 20; refine (l1In_is hi.out _).mono ?_; rintro e w' ⟨rfl, rfl⟩)
      go_loop [6, 5] (fun i x => ∃ (k : Nat) (n : Int), k ≤ s.size ∧ i = .int .i64 k ∧ x = .int .i64 n ∧ 0 ≤ n ∧ n ≤ 999999 ∧ Hid (n < p10 k) ∧ Hid (Lib.decFrom 0 (s.data.toList.take k) = some n.toNat)) (fun i _ => s.size - (intOf i).toNat)
      case atStart => exact ⟨0, 0, Nat.zero_le _, rfl, rfl, by omega, by omega, hide (by decide), hide (by simp [Lib.decFrom])⟩
      case round =>
        obtain ⟨k, n, hk, rfl, rfl, n0, n1, HP, HD⟩ := hrel
        by_cases hlt : k < s.size
        · have hki : (k : Int) < (s.size : Int) := by omega
          by_cases h1 : (s[k].toNat : Int) < 48
          · have HN := hide (show ¬ (48 ≤ (s[k].toNat : Int) ∧ (s[k].toNat : Int) ≤ 57) by omega)
            go_wp2_with fail
            go_ret2
            exact ⟨0, false, rfl, fun m m0 m1 e => (num_dig hlt HN.out m m0 m1 e).elim, Below.refl _ _⟩
          by_cases h2 : 57 < (s[k].toNat : Int)
          · have HN := hide (show ¬ (48 ≤ (s[k].toNat : Int) ∧ (s[k].toNat : Int) ≤ 57) by omega)
            go_wp2_with fail
            go_ret2
            exact ⟨0, false, rfl, fun m m0 m1 e => (num_dig hlt HN.out m m0 m1 e).elim, Below.refl _ _⟩
          have HST := hide (dec_step hlt n0 HD.out ⟨by omega, by omega⟩)
          obtain ⟨q0, q1⟩ := p10_le (show k + 1 ≤ 6 by omega)
          have hps := p10_step k; have hpn := HP.out
          have hd0 : 0 ≤ 10 * n + ((s[k].toNat : Int) - 48) := by omega
          have hd1 : 10 * n + ((s[k].toNat : Int) - 48) < p10 (k + 1) := by omega
          have hd2 : 10 * n + ((s[k].toNat : Int) - 48) ≤ 999999 := by omega
          have HP2 := hide hd1; clear hps hpn hd1 q0 q1
          go_wp2_with fail
          go_round
          case rel => exact ⟨k + 1, _, by omega, by go_num, rfl, hd0, hd2, HP2, HST⟩
          case measure => simp [intOf]; omega
        · obtain rfl : k = s.size := by omega
          have HE := hide (dec_end n0 HD.out)
          go_wp2_with fail
          refine (l1Num_all n _ (by omega) (by omega)).mono ?_
          rintro e w1 ⟨x, rfl, hx, hb1⟩
          have HX := hide hx; clear hx
          by_cases hne : x = s
          · have hq1 : (x.toList == s.toList) = true := by simp [hne]
            have HNE := hide hne; clear hne
            go_wp2_with fail
            go_ret2
            exact ⟨_, true, rfl, HE.out, hb1⟩
          · have hq1 : (x.toList == s.toList) = false := ba_ne hne
            have HNE := hide hne; clear hne
            go_wp2_with fail
            go_ret2
            exact ⟨0, false, rfl, fun m m0 m1 e => absurd (by rw [HX.out n0, HE.out m m0 m1 e, e]) HNE.out, hb1⟩
  · go_enter Tryd.func16, Tryd.ntmps16
    go_upto_region 4 with fail
    cases hi0 : inB (s.size : Int) 1 6
    · have hi := hide hi0
      have hnot : ¬ (1 ≤ (s.size : Int) ∧ (s.size : Int) ≤ 6) := by rw [← inB_iff]; simp [hi0]
      have HN := hide hnot; clear hi0 hnot
      go_wp2_with (go_at_call 20; refine (l1In_is hi.out _).mono ?_; rintro e w' ⟨rfl, rfl⟩)
      go_ret2
      exact ⟨0, false, rfl, fun m m0 m1 e => (num_size HN.out m m0 m1 e).elim, Below.refl _ _⟩
    have hi := hide hi0
    obtain ⟨hz1, hz6⟩ := inB_iff.1 hi0; clear hi0
    go_wp2_with (go_at_call 20; refine (l1In_is hi.out _).mono ?_; rintro e w' ⟨rfl, rfl⟩)
    go_loop [6, 5] (fun i x => ∃ (k : Nat) (n : Int), k ≤ s.size ∧ i = .int .i64 k ∧ x = .int .i64 n ∧ 0 ≤ n ∧ n ≤ 999999 ∧ Hid (n < p10 k) ∧ Hid (Lib.decFrom 0 (s.data.toList.take k) = some n.toNat)) (fun i _ => s.size - (intOf i).toNat)
    case atStart => exact ⟨0, 0, Nat.zero_le _, rfl, rfl, by omega, by omega, hide (by decide), hide (by simp [Lib.decFrom])⟩
    case round =>
      obtain ⟨k, n, hk, rfl, rfl, n0, n1, HP, HD⟩ := hrel
      by_cases hlt : k < s.size
      · have hki : (k : Int) < (s.size : Int) := by omega
        by_cases h1 : (s[k].toNat : Int) < 48
        · have HN := hide (show ¬ (48 ≤ (s[k].toNat : Int) ∧ (s[k].toNat : Int) ≤ 57) by omega)
          go_wp2_with fail
          go_ret2
          exact ⟨0, false, rfl, fun m m0 m1 e => (num_dig hlt HN.out m m0 m1 e).elim, Below.refl _ _⟩
        by_cases h2 : 57 < (s[k].toNat : Int)
        · have HN := hide (show ¬ (48 ≤ (s[k].toNat : Int) ∧ (s[k].toNat : Int) ≤ 57) by omega)
          go_wp2_with fail
          go_ret2
          exact ⟨0, false, rfl, fun m m0 m1 e => (num_dig hlt HN.out m m0 m1 e).elim, Below.refl _ _⟩
        have HST := hide (dec_step hlt n0 HD.out ⟨by omega, by omega⟩)
        obtain ⟨q0, q1⟩ := p10_le (show k + 1 ≤ 6 by omega)
        have hps := p10_step k; have hpn := HP.out
        have hd0 : 0 ≤ 10 * n + ((s[k].toNat : Int) - 48) := by omega
        have hd1 : 10 * n + ((s[k].toNat : Int) - 48) < p10 (k + 1) := by omega
        have hd2 : 10 * n + ((s[k].toNat : Int) - 48) ≤ 999999 := by omega
        have HP2 := hide hd1; clear hps hpn hd1 q0 q1
        go_wp2_with fail
        go_round
        case rel => exact ⟨k + 1, _, by omega, by go_num, rfl, hd0, hd2, HP2, HST⟩
        case measure => simp [intOf]; omega
      · obtain rfl : k = s.size := by omega
        have HE := hide (dec_end n0 HD.out)
        go_wp2_with fail
        refine (l1Num_all n _ (by omega) (by omega)).mono ?_
        rintro e w1 ⟨x, rfl, hx, hb1⟩
        have HX := hide hx; clear hx
        by_cases hne : x = s
        · have hq1 : (x.toList == s.toList) = true := by simp [hne]
          have HNE := hide hne; clear hne
          go_wp2_with fail
          go_ret2
          exact ⟨_, true, rfl, HE.out, hb1⟩
        · have hq1 : (x.toList == s.toList) = false := ba_ne hne
          have HNE := hide hne; clear hne
          go_wp2_with fail
          go_ret2
          exact ⟨0, false, rfl, fun m m0 m1 e => absurd (by rw [HX.out n0, HE.out m m0 m1 e, e]) HNE.out, hb1⟩
def ErrIs (w : World) : Prop := ∃ (tp : TypeId) (p : Value), w.var? Tryd.prog "strconv.ErrSyntax" = some #[.iface tp p]
theorem ErrIs.below {w w' : World} (h : ErrIs w) (hb : Below w.heap.size w w') : ErrIs w' := by
  obtain ⟨tp, p, h⟩ := h
  refine ⟨tp, p, ?_⟩
  unfold World.var? at h ⊢
  cases hg : Tryd.prog.globalNamed "strconv.ErrSyntax" with
  | none => rw [hg] at h; cases h
  | some g =>
    rw [hg] at h
    simp only [Option.bind_some] at h ⊢
    have hlt : g < w.heap.size := by
      cases hh : w.heap[g]? with
      | none => rw [hh] at h; cases h
      | some o => exact (Array.getElem?_eq_some_iff.1 hh).1
    rw [hb.block _ hlt]
    exact h
theorem Itoa_all (n : Int) (w : World) (h0 : -999999 ≤ n) (h1 : n ≤ 999999) (ht : Tab10 w) : Calls Tryd.prog 25 #[.int .i64 n] w fun e w' => e = .returned (.string (numB n)) ∧ Below w.heap.size w w' :=
  (Tryd.strconv_Itoa n (by omega) (by omega) w ht).mono fun e w' ⟨he, k, os, hw⟩ => ⟨he, hw ▸ grow_below w k os⟩
theorem dec_key : ∀ (l : List UInt8) (acc n : Nat), Lib.decFrom acc l = some n → n < (acc + 1) * 10 ^ l.length
  | [], acc, n, h => by simp [Lib.decFrom] at h; subst h; simp
  | c :: t, acc, n, h => by
    simp only [Lib.decFrom] at h
    cases hd : Lib.digitVal c with
    | none => rw [hd] at h; cases h
    | some d =>
      rw [hd] at h
      have hd9 : d ≤ 9 := by
        unfold Lib.digitVal at hd
        split at hd
        · injection hd with hd; omega
        · cases hd
      have ih := dec_key t _ n h
      rw [List.length_cons, Nat.pow_succ]
      calc n < (acc * 10 + d + 1) * 10 ^ t.length := ih
        _ ≤ ((acc + 1) * 10) * 10 ^ t.length := Nat.mul_le_mul_right _ (by omega)
        _ = (acc + 1) * (10 ^ t.length * 10) := by rw [Nat.mul_assoc, Nat.mul_comm 10]
theorem atoi_bd {l : List UInt8} {n : Int} (hl : l.length ≤ 7) (h : Lib.atoi l = some n) : -99999999 ≤ n ∧ n ≤ 99999999 := by
  have k2 : ∀ (l : List UInt8) (m : Nat), l.length ≤ 7 → Lib.decNat l = some m → m < 10000000 := fun l m hl h => by
    have h1 := dec_key l 0 m (Lib.decNat_some h).2
    have h2 : 10 ^ l.length ≤ 10 ^ 7 := Nat.pow_le_pow_right (by decide) hl
    have h3 : (10 : Nat) ^ 7 = 10000000 := by decide
    omega
  cases l with
  | nil => simp [Lib.atoi] at h
  | cons b r =>
    simp only [Lib.atoi] at h
    have hr : r.length ≤ 7 := by simp at hl; omega
    split at h
    · obtain ⟨m, hm, rfl⟩ := Option.map_eq_some_iff.1 h
      have := k2 r m hr hm; omega
    · split at h
      · obtain ⟨m, hm, rfl⟩ := Option.map_eq_some_iff.1 h
        have := k2 r m hr hm; omega
      · obtain ⟨m, hm, rfl⟩ := Option.map_eq_some_iff.1 h
        have := k2 _ m hl hm; omega
set_option maxRecDepth 100000 in
set_option maxHeartbeats 1000000 in
theorem ParseInt_any (s : ByteArray) (w : World) (ht : Tab10 w) (he : ErrIs w) :
    Calls Tryd.prog 19 #[.string s] w fun e w' => (∃ b : Bool, e = .returned (.tuple #[.int .i64 (piV s), .bool b])) ∧ Below w.heap.size w w' := by
  by_cases h7 : (7 : Int) < (s.size : Int)
  · have HV := hide (show piV s = 0 by rw [piV, if_pos (by omega)])
    go_enter Tryd.func19, Tryd.ntmps19
    go_wp2_with fail
    go_ret2
    exact ⟨⟨false, by rw [HV.out] <;> rfl⟩, Below.refl _ _⟩
  have h7n : ¬ 7 < s.size := by omega
  cases ha : Lib.atoi s.data.toList with
  | none =>
    have HA := hide ha
    have HV := hide (show piV s = 0 by rw [piV, if_neg h7n, ha])
    clear ha
    obtain ⟨tp, p, hvar⟩ := he
    have HVAR := hide hvar; clear hvar
    go_enter Tryd.func19, Tryd.ntmps19
    go_wp2_with (go_at_call 27; refine (Tryd.strconv_Atoi_err_var s (by omega) HA.out tp p _ HVAR.out).mono ?_; rintro e w1 ⟨N, rfl, _, _, hb1⟩)
    go_ret2
    exact ⟨⟨false, by rw [HV.out] <;> rfl⟩, hb1⟩
  | some n =>
    have HA := hide ha
    obtain ⟨d0, d1⟩ := atoi_bd (by have : s.data.toList.length = s.size := by simp
                                   omega) ha
    have HT := hide ht
    cases hi0 : inB n (-999999) 999999
    · have hi := hide hi0
      have HV := hide (show piV s = 0 by
        rw [piV, if_neg h7n, ha]
        show (if -999999 ≤ n ∧ n ≤ 999999 ∧ numB n = s then n else 0) = 0
        rw [if_neg]
        rintro ⟨a, b, _⟩
        rw [inB_iff.2 ⟨a, b⟩] at hi0; cases hi0)
      clear ha hi0
      go_enter Tryd.func19, Tryd.ntmps19
      go_wp2_with (first | (go_at_call 27; refine (Tryd.strconv_Atoi s n (by omega) HA.out _).mono ?_; rintro e w1 ⟨rfl, tt, hwt⟩; have hb1 := Lib.bytesWorld_below w 5 tt; rw [← hwt] at hb1; clear hwt) | (go_at_call 24; refine (within_is hi.out _).mono ?_; rintro e w' ⟨rfl, rfl⟩))
      go_ret2
      exact ⟨⟨false, by rw [HV.out] <;> rfl⟩, hb1⟩
    · obtain ⟨n0, n1⟩ := inB_iff.1 hi0
      have hi := hide hi0
      by_cases hne : numB n = s
      · have hq1 : ((numB n).toList == s.toList) = true := by rw [hne]; simp
        have HV := hide (show piV s = n by
          rw [piV, if_neg h7n, ha]
          show (if -999999 ≤ n ∧ n ≤ 999999 ∧ numB n = s then n else 0) = n
          rw [if_pos ⟨n0, n1, hne⟩])
        clear ha hi0 hne
        go_enter Tryd.func19, Tryd.ntmps19
        go_wp2_with (first | (go_at_call 27; refine (Tryd.strconv_Atoi s n (by omega) HA.out _).mono ?_; rintro e w1 ⟨rfl, tt, hwt⟩; have hb1 := Lib.bytesWorld_below w 5 tt; rw [← hwt] at hb1; clear hwt) | (go_at_call 24; refine (within_is hi.out _).mono ?_; rintro e w' ⟨rfl, rfl⟩) | (go_at_call 25; refine (Itoa_all n _ (by omega) (by omega) (HT.out.below hb1)).mono ?_; rintro e w2 ⟨rfl, hb2⟩; have hb1 := below_step hb1 hb2 (Nat.le_refl _)))
        go_ret2
        exact ⟨⟨true, by rw [HV.out] <;> rfl⟩, hb1⟩
      · have hq1 : ((numB n).toList == s.toList) = false := ba_ne hne
        have HV := hide (show piV s = 0 by
          rw [piV, if_neg h7n, ha]
          show (if -999999 ≤ n ∧ n ≤ 999999 ∧ numB n = s then n else 0) = 0
          rw [if_neg]
          rintro ⟨_, _, c⟩
          exact hne c)
        clear ha hi0 hne
        go_enter Tryd.func19, Tryd.ntmps19
        go_wp2_with (first | (go_at_call 27; refine (Tryd.strconv_Atoi s n (by omega) HA.out _).mono ?_; rintro e w1 ⟨rfl, tt, hwt⟩; have hb1 := Lib.bytesWorld_below w 5 tt; rw [← hwt] at hb1; clear hwt) | (go_at_call 24; refine (within_is hi.out _).mono ?_; rintro e w' ⟨rfl, rfl⟩) | (go_at_call 25; refine (Itoa_all n _ (by omega) (by omega) (HT.out.below hb1)).mono ?_; rintro e w2 ⟨rfl, hb2⟩; have hb1 := below_step hb1 hb2 (Nat.le_refl _)))
        go_ret2
        exact ⟨⟨false, by rw [HV.out] <;> rfl⟩, hb1⟩
end Go.Proofs.YtkdnkhbcbcffeaaDoor
