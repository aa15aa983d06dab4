/- SwitchOff: the program's function and the reference's. -/
import Derived.Test.YtafefnpmgpmjpaaServeI
namespace Go.Proofs.Ytafefnpmgpmjpaa
open Go Go.RowKit
set_option linter.unusedVariables false
set_option linter.unusedSimpArgs false
set_option maxRecDepth 100000 in
set_option maxHeartbeats 4000000 in
theorem SwitchOff_any (L : List Consumer) (supply : Int) (A : Option Addr) (cap : Nat) (w : World) (hr : Rd Consumer.enc 3 w.heap.size w A L) (hok : ∀ c ∈ L, c.Ok) (hl : L.length ≤ maxLen) (hcap : L.length ≤ cap) :
    Calls Try.prog 36 #[.slice A L.length cap, .int .i64 supply] w (Gives (offV L supply).length (fun v => .tuple #[v, .bool (servB L supply)]) (fun w' v => Own encS 1 9 w.heap.size w' v (offV L supply)) w) := by
  have hno : servB L supply = false → offV L supply = [] := fun h => by simp [offV, h]
  cases h : consB L
  · have HB := hide (show servB L supply = false by simp [servB, h])
    have HN := hide (hno HB.out); clear hno
    go_enter Try.func36, Try.ntmps36
    go_wp2_with (go_at_call 42; refine (AreConsumers_is h _ _ _ hr hok hl hcap).mono ?_; rintro e w1 ⟨rfl, hb1⟩)
    go_ret2
    rw [HN.out]; rw [HB.out]; exact ⟨none, 0, rfl, own_nil _ _ _, hb1⟩
  have H := hide h; clear h
  cases hs : inB supply 0 2000000
  · have HB := hide (show servB L supply = false by simp [servB, hs])
    have HN := hide (hno HB.out); clear hno
    go_enter Try.func36, Try.ntmps36
    go_wp2_with (first | (go_at_call 42; refine (AreConsumers_is H.out _ _ _ hr hok hl hcap).mono ?_; rintro e w1 ⟨rfl, hb1⟩) | (go_at_call 68; refine (isSupply_is hs _).mono ?_; rintro e w' ⟨rfl, rfl⟩))
    go_ret2
    rw [HN.out]; rw [HB.out]; exact ⟨none, 0, rfl, own_nil _ _ _, hb1⟩
  clear hno
  have HB := hide (show servB L supply = true by simp [servB, H.out, hs])
  obtain ⟨s0, s9⟩ := inB_iff.1 hs
  have hl8 := consB_len H.out
  have HV := hide (show offV L supply = namesK (ordF L) (offK (ordF L) (loadI L 9) supply) by rw [offV, if_pos HB.out]; rfl)
  obtain ⟨n0, n9⟩ := loadI_bd 9 H.out
  obtain ⟨nd, hnd⟩ : ∃ nd, loadI L 9 = nd := ⟨_, rfl⟩
  rw [hnd] at n0 n9
  have HND := hide hnd; clear hnd
  have HWB := hide (show ∀ c ∈ ordF L, 1 ≤ c.watts ∧ c.watts ≤ 1000000 from fun c hc => (cons_in H.out (ord_in hc)).1)
  go_enter Try.func36, Try.ntmps36
  go_wp2_with (first | (go_at_call 42; refine (AreConsumers_is H.out _ _ _ hr hok hl hcap).mono ?_; rintro e w1 ⟨rfl, hb1⟩) | (go_at_call 68; refine (isSupply_is hs _).mono ?_; rintro e w' ⟨rfl, rfl⟩) | (go_at_call 69; refine (Consumer.Clone_any L _ _ _ (hr.later hb1) (by omega)).mono ?_; rintro e w2 ⟨Ac, cc, rfl, hoc, hb2⟩; have B2 := below_step hb1 hb2 (Nat.le_refl _)) | (go_at_call 52; refine (emergencyLoad_is HND.out _ _ _ H.out (hr.later B2)).mono ?_; rintro e w2b ⟨rfl, hb2b⟩; have hoc2 := Own.below hoc hb2b; have hs2 : w1.heap.size ≤ w2b.heap.size := Nat.le_trans hb2.size hb2b.size) | (go_at_call 70; refine (stable_all offC gtF gtF_is 74 Ac cc L.length w1.heap.size L _ rfl (fun _ _ => by kernel_rfl) off1_any hoc2 hl8 hs2).mono ?_; rintro e w3 ⟨rfl, hor, hb3⟩))
  have B2b := B2.trans (hb2b.mono B2.size)
  have B3 := B2b.trans (hb3.mono hb1.size)
  have hw3 : w1.heap.size ≤ w3.heap.size := Nat.le_trans hs2 hb3.size
  have hbs : Below w3.heap.size w3 (w3.alloc (.cells #[] 9)) := (Below.refl _ _).alloc (Nat.le_refl _) _
  have hos0 : Own encS 1 9 w3.heap.size (w3.alloc (.cells #[] 9)) (.slice (some ⟨w3.heap.size, 0, none⟩) 0 0) [] := own_empty (Nat.le_refl _)
  have hor0 := Own.below hor hbs
  clear hoc hoc2
  go_loopw [28, 8, 7] (fun i m s wr => ∃ (k q cap' : Nat) (t : Int), k ≤ L.length ∧ i = .int .i64 k ∧ m = .slice (some ⟨q, 0, none⟩) (namesK (ordF L) k).length cap' ∧ s = .int .i64 t ∧ Hid (needK (ordF L) nd k = t) ∧ Hid (∀ j, j < k → supply < needK (ordF L) nd j) ∧ Own encS 1 9 w3.heap.size wr (.slice (some ⟨q, 0, none⟩) (namesK (ordF L) k).length cap') (namesK (ordF L) k) ∧ Own Consumer.enc 3 65 w1.heap.size wr (.slice Ac L.length cc) (ordF L) ∧ Below w3.heap.size w3 wr) (fun i _ _ _ => L.length - (intOf i).toNat)
  case atStart => exact ⟨0, _, _, nd, Nat.zero_le _, rfl, rfl, rfl, hide (by simp [needK]), hide (fun j hj => absurd hj (Nat.not_lt_zero j)), hos0, hor0, hbs⟩
  case round =>
    clear hos0 hor0 hbs
    obtain ⟨k, q, cap', t, hk, rfl, rfl, rfl, hnt, hlow, hos, hoo, hbel⟩ := hrel
    have hnl := names_len (O := ordF L) (k := k) (by rw [ordF_len]; exact hk)
    obtain ⟨t1, t2⟩ := need_bd (need := nd) HWB.out k (by rw [ordF_len]; exact hk)
    rw [hnt.out] at t1 t2
    have hend : (k < L.length → t ≤ supply) → offV L supply = namesK (ordF L) k := fun h => by
      rw [HV.out, HND.out, offK_is (by rw [ordF_len]; exact hk) hlow.out (fun h2 => by rw [ordF_len] at h2; rw [hnt.out]; exact h h2)]
    have HEND := hide hend; clear hend
    by_cases hlt : k < L.length
    · have hki : (k : Int) < (L.length : Int) := by omega
      obtain ⟨c, hc⟩ : ∃ c, (ordF L)[k]? = some c := ⟨_, List.getElem?_eq_getElem (by rw [ordF_len]; omega)⟩
      obtain ⟨⟨c1, c2⟩, _⟩ := cons_in H.out (ord_in (List.mem_of_getElem? hc))
      obtain ⟨gg, hgA⟩ := own_some hoo (by rw [ordF_len]; omega)
      subst hgA
      have hoL : Own Consumer.enc 3 65 w1.heap.size wr (.slice (some ⟨gg, 0, none⟩) (ordF L).length cc) (ordF L) := by rw [ordF_len]; exact hoo
      have y0 := own_cell hoL (flat_get Consumer.enc_len _ k c hc 0 _ rfl)
      have y1 := own_cell hoL (flat_get Consumer.enc_len _ k c hc 1 _ rfl)
      have y2 := own_cell hoL (flat_get Consumer.enc_len _ k c hc 2 _ rfl)
      rw [Nat.add_zero] at y0
      have HC := hide hc; clear hc hoL
      have hws := hbel.size
      have hos' := World.ownsRow.drew (World.ownsRow.alloc hos (.cells #[.string c.name, .int .i64 c.watts, .int .i64 c.rank] 65))
      have hoo' := World.ownsRow.alloc hoo (.cells #[.string c.name, .int .i64 c.watts, .int .i64 c.rank] 65)
      have hq := own_ltw hos
      have z0 := cell_new wr #[.string c.name, .int .i64 c.watts, .int .i64 c.rank] 65 wr.heap.size 0 _ rfl rfl
      have z1 := cell_new wr #[.string c.name, .int .i64 c.watts, .int .i64 c.rank] 65 wr.heap.size 1 _ rfl rfl
      by_cases hle : t ≤ supply
      · have HF := hide (HEND.out (fun _ => hle))
        go_wp2_with fail
        go_ret2
        rw [HF.out, HB.out]
        exact ⟨_, cap', rfl, Own.mono_ (World.ownsRow.alloc hos _) (Nat.le_trans hb1.size hw3), B3.trans ((hbel.alloc hws _).mono (Nat.le_trans hb1.size hw3))⟩
      · have HS := hide (names_step HC.out)
        have HNS := hide (need_step (need := nd) HC.out)
        have HLW := hide (show ∀ j, j < k + 1 → supply < needK (ordF L) nd j from fun j hj => by
          rcases Nat.lt_or_eq_of_le (Nat.lt_succ_iff.1 hj) with h3 | h3
          · exact hlow.out j h3
          · subst h3; rw [hnt.out]; omega)
        have HOW := hide (fun (w5 : World) (hb : Below w3.heap.size (wr.alloc (.cells #[.string c.name, .int .i64 c.watts, .int .i64 c.rank] 65)).drew w5) => Own.below hor ((hbel.alloc hws (.cells #[.string c.name, .int .i64 c.watts, .int .i64 c.rank] 65)).trans (((Below.refl _ _).drew).trans hb)))
        have hN9 : (namesK (ordF L) k).length ≤ 8 := by omega
        clear hnl
        generalize namesK (ordF L) k = N at *
        go_wp2_with fail
        go_region_held_law (fun w' => w'.cell? ⟨wr.heap.size, 0, none⟩ = some (.string c.name) ∧ w'.cell? ⟨wr.heap.size, 1, none⟩ = some (.int .i64 c.watts)) (first | exact ⟨moved_cell (g := q) hg5 (by omega) ((World.cell?_alloc_lt _ _ _ (by show _ < _; simp [World.size_alloc] <;> omega)).trans z0), moved_cell (g := q) hg5 (by omega) ((World.cell?_alloc_lt _ _ _ (by show _ < _; simp [World.size_alloc] <;> omega)).trans z1)⟩ | exact ⟨z0, z1⟩ | go_keep) ((refine step_push2 (w := (wr.alloc (.cells #[.string c.name, .int .i64 c.watts, .int .i64 c.rank] 65)).drew) rfl (.tmp 35) (.tmp 38) 52 9 rfl Try.underlying52 infoS rfl (by omega) (by omega) encS_len encS_one w3.heap.size _ cap' N c.name _ rfl rfl _ rfl (by first | rfl | simp | (show (World.alloc _ _).heap.size = _; simp)) hos' (by show w3.heap.size ≤ _; simp [World.drew, World.size_alloc]; omega) (by omega) ?_; intro q5 cap5 w5 ho5 hb5 hg5 hq5))
        go_wp2_with fail
        go_roundw
        case rel => exact ⟨k + 1, q5, cap5, _, by omega, by go_num, sl_eq (by rw [HS.out]; simp), rfl, hide (by rw [HNS.out, hnt.out]), HLW, by rw [HS.out, List.length_append]; exact ho5, HOW.out _ hb5, ((hbel.alloc hws _).drew).trans hb5⟩
        case measure => simp [intOf] <;> omega
    · obtain rfl : k = L.length := by omega
      have HF := hide (HEND.out (fun h => absurd h hlt))
      go_wp2_with fail
      go_ret2
      rw [HF.out, HB.out]
      exact ⟨_, cap', rfl, Own.mono_ hos (Nat.le_trans hb1.size hw3), B3.trans (hbel.mono (Nat.le_trans hb1.size hw3))⟩
set_option maxRecDepth 100000 in
set_option maxHeartbeats 8000000 in
theorem SwitchOff_spec (L : List Consumer) (supply : Int) (A : Option Addr) (cap : Nat) (w : World) (hr : Rd Consumer.enc 3 w.heap.size w A L) (hok : ∀ c ∈ L, c.Ok) (hl : L.length ≤ maxLen) :
    Calls Try.prog 35 #[.slice A L.length cap, .int .i64 supply] w (Gives (offV L supply).length (fun v => .tuple #[v, .bool (servB L supply)]) (fun w' v => Own encS 1 9 w.heap.size w' v (offV L supply)) w) := by
  have hba : Below w.heap.size w (w.alloc (.cells #[] 9)) := (Below.refl _ _).alloc (Nat.le_refl _) _
  have hown0 : Own encS 1 9 w.heap.size (w.alloc (.cells #[] 9)) (.slice (some ⟨w.heap.size, 0, none⟩) 0 0) [] := own_empty (Nat.le_refl _)
  have hno : servB L supply = false → offV L supply = [] := fun h => by simp [offV, h]
  cases h : consB L
  · have HB := hide (show servB L supply = false by simp [servB, h])
    have HN := hide (hno HB.out); clear hno
    go_enter Try.func35, Try.ntmps35
    go_wp2_with (go_at_call 44; refine (l18Good_is h _ _ _ (hr.later hba) hok hl).mono ?_; rintro e w1 ⟨rfl, hb1⟩)
    go_ret2
    rw [HN.out]; rw [HB.out]; exact ⟨_, _, rfl, Own.below hown0 hb1, below_step hba hb1 (Nat.le_refl _)⟩
  have H := hide h; clear h
  cases hs : inB supply 0 2000000
  · have HB := hide (show servB L supply = false by simp [servB, hs])
    have HN := hide (hno HB.out); clear hno
    go_enter Try.func35, Try.ntmps35
    go_wp2_with (first | (go_at_call 44; refine (l18Good_is H.out _ _ _ (hr.later hba) hok hl).mono ?_; rintro e w1 ⟨rfl, hb1⟩) | (go_at_call 66; refine (l18Supply_is hs _).mono ?_; rintro e w' ⟨rfl, rfl⟩))
    go_ret2
    rw [HN.out]; rw [HB.out]; exact ⟨_, _, rfl, Own.below hown0 hb1, below_step hba hb1 (Nat.le_refl _)⟩
  clear hno
  have HB := hide (show servB L supply = true by simp [servB, H.out, hs])
  obtain ⟨s0, s9⟩ := inB_iff.1 hs
  have hl8 := consB_len H.out
  have HV := hide (show offV L supply = namesK (ordF L) (offK (ordF L) (loadI L 9) supply) by rw [offV, if_pos HB.out]; rfl)
  obtain ⟨n0, n9⟩ := loadI_bd 9 H.out
  obtain ⟨nd, hnd⟩ : ∃ nd, loadI L 9 = nd := ⟨_, rfl⟩
  rw [hnd] at n0 n9
  have HND := hide hnd; clear hnd
  have HWB := hide (show ∀ c ∈ ordF L, 1 ≤ c.watts ∧ c.watts ≤ 1000000 from fun c hc => (cons_in H.out (ord_in hc)).1)
  go_enter Try.func35, Try.ntmps35
  go_wp2_with (first | (go_at_call 44; refine (l18Good_is H.out _ _ _ (hr.later hba) hok hl).mono ?_; rintro e w1 ⟨rfl, hb1⟩) | (go_at_call 66; refine (l18Supply_is hs _).mono ?_; rintro e w' ⟨rfl, rfl⟩))
  have B1 := below_step hba hb1 (Nat.le_refl _)
  have hos1 := Own.below hown0 hb1
  have hr0 := hr
  replace hr := hr.later B1
  have r0 := hr
  clear hown0
  have hba0 : Below w1.heap.size w1 (w1.alloc (.cells #[] 65)) := (Below.refl _ _).alloc (Nat.le_refl _) _
  have hown0 : Own Consumer.enc 3 65 w1.heap.size (w1.alloc (.cells #[] 65)) (.slice (some ⟨w1.heap.size, 0, none⟩) 0 0) [] := own_empty (Nat.le_refl _)
  go_loopw [8, 7] (fun i m wr => ∃ (k q cap' : Nat), k ≤ L.length ∧ i = .int .i64 k ∧ m = .slice (some ⟨q, 0, none⟩) k cap' ∧ Own Consumer.enc 3 65 w1.heap.size wr (.slice (some ⟨q, 0, none⟩) k cap') (ordL gtF (L.take k)) ∧ Below w1.heap.size w1 wr) (fun i _ _ => L.length - (intOf i).toNat)
  case atStart => exact ⟨0, _, _, Nat.zero_le _, rfl, rfl, hown0, hba0⟩
  case round =>
    clear hown0 hba0
    obtain ⟨k, q, cap, hk, rfl, rfl, ho, hbel⟩ := hrel
    obtain ⟨W1, hW1⟩ : ∃ W1 : World, W1 = wr := ⟨_, rfl⟩
    subst hW1
    by_cases hlt : k < L.length
    · have hki : (k : Int) < (L.length : Int) := by omega
      obtain ⟨bl, ol, rfl, hbl, hcl⟩ := Consumer.rd_at r0 (by intro h; subst h; simp at hlt)
      have hgk := List.getElem?_eq_getElem hlt
      obtain ⟨x0, x1, x2⟩ := hcl k _ hgk
      have hst := ordL_take (gt := gtF) hlt
      generalize L[k] = x at *
      have hol : (ordL gtF (L.take k)).length = k := by rw [ordL_len, List.length_take]; omega
      generalize ordL gtF (L.take k) = O at *
      replace x0 := below_cell hbel x0; replace x1 := below_cell hbel x1; replace x2 := below_cell hbel x2
      have HST := hide hst; clear hst hcl hgk
      have HO := hide ho
      have hMl : O.length = k := hol
      have hcap := own_cple ho hMl
      clear ho hol
      go_wp2_with fail
      go_loopw [9] (fun i wr => ∃ p : Nat, p ≤ k ∧ i = .int .i64 p ∧ Hid (∀ (j : Nat) (c : Consumer), p ≤ j → O[j]? = some c → gtF c x = true) ∧ Below W1.heap.size W1 wr) (fun i _ => (intOf i).toNat)
      case atStart => exact ⟨k, Nat.le_refl _, rfl, hide (fun j c hj h => by rw [List.getElem?_eq_none (by omega)] at h; cases h), Below.refl _ _⟩
      case round =>
        obtain ⟨p, hp, rfl, hhi, hb2⟩ := hrel
        replace x0 := below_cell hb2 x0; replace x1 := below_cell hb2 x1; replace x2 := below_cell hb2 x2
        have hend : (∀ c, 0 < p → O[p - 1]? = some c → gtF c x = false) → ordL gtF (L.take (k + 1)) = insL O p x := fun h => by
          rw [HST.out, insS, posR_is (by omega) hhi.out h]
        have HEND := hide hend; clear hend
        by_cases hp0 : p = 0
        · subst hp0
          have HP := hide (HEND.out (fun c h => absurd h (by omega)))
          have a0 := after_cell x0; have a1 := after_cell x1; have a2 := after_cell x2
          go_wp2_with fail
          refine wp_region_after (by kernel_rfl) (by kernel_rfl) ?_
          repeat (go_big_quiet_step (fail))
          refine wpQuiet_nil ?_
          rintro W3 ⟨⟨_, hb3⟩, rfl⟩
          clear a0 a1 a2 HEND hhi
          have B3 := below_step hb2 hb3 (Nat.le_refl _)
          have s0 := below_cell hb3 x0; have s1 := below_cell hb3 x1; have s2 := below_cell hb3 x2; clear x0 x1 x2
          have hS : bl < W3.heap.size := World.block_lt_of_cell? _ _ s0
          have hr : Rd Consumer.enc 3 W3.heap.size W3 (some ⟨q, 0, none⟩) O := Own.rd_of Consumer.enc_len (Own.below HO.out B3)
          have hA : (some ⟨q, 0, none⟩ : Option Addr) ≠ none := by simp
          obtain ⟨A, hAq⟩ : ∃ A : Option Addr, A = some ⟨q, 0, none⟩ := ⟨_, rfl⟩
          rw [← hAq] at hr hA ⊢
          clear hAq
          by_cases hk00 : k = 0
          · subst hk00
            simp only [Nat.zero_mul, Nat.add_zero] at s0 s1 s2
            rcases A with _ | ad
            · exact absurd rfl hA
            · by_cases hck : cap = 0
              · subst hck
                have hkt : (O.take 0).length = 0 := by rw [List.length_take]; omega
                have hdk : O.drop 0 = [] := by rw [List.drop_eq_nil_iff]; omega
                have hke : ([] ++ O.take 0 ++ [x]) ++ ([] : List Consumer) = insL O 0 x := by unfold insL; rw [hdk]; simp
                clear hdk
                have HKE := hide hke; clear hke
                go_wp2_with fail
                have K0 : Below W3.heap.size W3 W3 := Below.refl _ _
                have HF := hide (fun (X : World) (hX : Below W3.heap.size W3 X) => show X.cell? ⟨bl, ol, none⟩ = some (.string x.name) ∧ X.cell? ⟨bl, ol + 1, none⟩ = some (.int .i64 x.watts) ∧ X.cell? ⟨bl, ol + 2, none⟩ = some (.int .i64 x.rank) from ⟨(hX.cell hS).trans s0, (hX.cell hS).trans s1, (hX.cell hS).trans s2⟩)
                go_region_held_law (fun w' => w'.cell? ⟨bl, ol, none⟩ = some (.string x.name) ∧ w'.cell? ⟨bl, ol + 1, none⟩ = some (.int .i64 x.watts) ∧ w'.cell? ⟨bl, ol + 2, none⟩ = some (.int .i64 x.rank)) (exact HF.out _ (by repeat (first | assumption | exact Below.refl _ _ | refine Below.drew ?_ | refine Below.alloc ?_ (by first | omega | (simp; done) | (simp; omega)) _)))
                  (first
                    | (refine step_app rfl (.tmp 77) (.tmp 80) 28 65 rfl Try.underlying28 Consumer.infoE rfl (by omega) (by omega) Consumer.enc_len Consumer.enc_one W3.heap.size _ 0 [] (O.take 0) (some ad) 0 0 0 0 rfl (by omega) rfl (by simp [Act.eval, Act.put]) hkt (fun ad had j u hu => by simp at hu) (fun h => by cases h) (by first | exact own_none (by first | rfl | simp) (by first | omega | simp) | exact World.ownsRow.alloc (own_none (by first | rfl | simp) (by first | omega | simp)) _) (by first | omega | (simp; done) | (simp; omega)) (by omega) ?_; intro Aa ca wa hoa hba hga; have KA : Below W3.heap.size W3 wa := (show Below W3.heap.size W3 _ from by repeat (first | assumption | exact Below.refl _ _ | refine Below.drew ?_ | refine Below.alloc ?_ (by first | omega | (simp; done) | (simp; omega)) _)).trans hba; have hKA : W3.heap.size ≤ wa.heap.size := KA.size)
                    | (refine step_app rfl (.tmp 81) (.tmp 86) 28 65 rfl Try.underlying28 Consumer.infoE rfl (by omega) (by omega) Consumer.enc_len Consumer.enc_one W3.heap.size _ ca ([] ++ O.take 0) [x] (some ⟨_, 0, none⟩) 1 1 (0) (0 + 1) (by rw [List.nil_append]; exact hkt) rfl rfl (by simp [Act.eval, Act.put] <;> rfl) rfl (fun ad had j u hu => by cases had; first | exact box_of _ wa x _ rfl _ _ (by first | rfl | simp) j u hu | exact (hga.cell_far _ (by first | (simp [Addr.add_mid]; done) | (simp [Addr.add_mid]; omega)) (by first | (simp [Addr.add_mid, Value.ownBlock]; done) | (simp [Addr.add_mid, Value.ownBlock]; omega))).trans (box_of _ (W3.alloc (.cells #[] 65)) x _ rfl _ _ (by first | rfl | simp) j u hu) | exact (hga.cell_far _ (by first | (simp [Addr.add_mid]; done) | (simp [Addr.add_mid]; omega)) (by first | (simp [Addr.add_mid, Value.ownBlock]; done) | (simp [Addr.add_mid, Value.ownBlock]; omega))).trans ((World.cell?_alloc_lt _ _ _ (by simp [Addr.add_mid])).trans (box_of _ W3 x _ rfl _ _ (by first | rfl | simp) j u hu))) (fun h => by cases h) (by first | exact hoa | exact World.ownsRow.alloc hoa _) (by first | omega | (simp; done) | (simp; omega)) (by omega) ?_; intro Ab cb wb hob hbb hgb; have KB : Below W3.heap.size W3 wb := (show Below W3.heap.size W3 _ from by repeat (first | assumption | exact Below.refl _ _ | refine Below.drew ?_ | refine Below.alloc ?_ (by first | omega | (simp; done) | (simp; omega)) _)).trans hbb; have hKB : W3.heap.size ≤ wb.heap.size := KB.size)
                    | (refine step_app rfl (.tmp 87) (.tmp 90) 28 65 rfl Try.underlying28 Consumer.infoE rfl (by omega) (by omega) Consumer.enc_len Consumer.enc_one W3.heap.size _ cb ([] ++ O.take 0 ++ [x]) (([] : List Consumer)) (some ad) 0 0 (0 + 1) (0 + 1 + 0) (by rw [List.length_append, List.nil_append, hkt]; rfl) (by omega) rfl (by simp [Act.eval, Act.put]) rfl (fun ad had j u hu => by simp at hu) (fun h => by cases h) (by first | exact hob | exact World.ownsRow.alloc hob _) (by first | omega | (simp; done) | (simp; omega)) (by omega) ?_; intro Ac cc wc hoc hbc hgc; have KC : Below W3.heap.size W3 wc := (show Below W3.heap.size W3 _ from by repeat (first | assumption | exact Below.refl _ _ | refine Below.drew ?_ | refine Below.alloc ?_ (by first | omega | (simp; done) | (simp; omega)) _)).trans hbc))
                all_goals
                  rw [HKE.out] at hoc
                  go_wp2_with fail
                  rw [← HP.out] at hoc
                  obtain ⟨q2, hq2⟩ := own_some hoc (by rw [ordL_len, List.length_take]; omega)
                  subst hq2
                  have hz : 0 + 1 + 0 = 0 + 1 := by omega
                  rw [hz] at hoc
                  go_roundw
                  case rel => exact ⟨0 + 1, q2, cc, by omega, by go_num, by first | rfl | exact sl_eq (by omega), Own.mono_ hoc (by have := hbel.size; have := B3.size; omega), below_step (below_step hbel B3 (Nat.le_refl _)) KC (Nat.le_refl _)⟩
                  case measure => simp [intOf] <;> omega
              · have hck3 : ¬ 0 = cap := fun h => hck h.symm
                have hkt : (O.take 0).length = 0 := by rw [List.length_take]; omega
                have hdk : O.drop 0 = [] := by rw [List.drop_eq_nil_iff]; omega
                have hke : ([] ++ O.take 0 ++ [x]) ++ ([] : List Consumer) = insL O 0 x := by unfold insL; rw [hdk]; simp
                clear hdk
                have HKE := hide hke; clear hke
                go_wp2_with fail
                have K0 : Below W3.heap.size W3 W3 := Below.refl _ _
                have HF := hide (fun (X : World) (hX : Below W3.heap.size W3 X) => show X.cell? ⟨bl, ol, none⟩ = some (.string x.name) ∧ X.cell? ⟨bl, ol + 1, none⟩ = some (.int .i64 x.watts) ∧ X.cell? ⟨bl, ol + 2, none⟩ = some (.int .i64 x.rank) from ⟨(hX.cell hS).trans s0, (hX.cell hS).trans s1, (hX.cell hS).trans s2⟩)
                go_region_held_law (fun w' => w'.cell? ⟨bl, ol, none⟩ = some (.string x.name) ∧ w'.cell? ⟨bl, ol + 1, none⟩ = some (.int .i64 x.watts) ∧ w'.cell? ⟨bl, ol + 2, none⟩ = some (.int .i64 x.rank)) (exact HF.out _ (by repeat (first | assumption | exact Below.refl _ _ | refine Below.drew ?_ | refine Below.alloc ?_ (by first | omega | (simp; done) | (simp; omega)) _)))
                  (first
                    | (refine step_app rfl (.tmp 77) (.tmp 80) 28 65 rfl Try.underlying28 Consumer.infoE rfl (by omega) (by omega) Consumer.enc_len Consumer.enc_one W3.heap.size _ 0 [] (O.take 0) (some ad) 0 cap 0 0 rfl (by omega) rfl (by simp [Act.eval, Act.put]) hkt (fun ad had j u hu => by simp at hu) (fun h => by cases h) (by first | exact own_none (by first | rfl | simp) (by first | omega | simp) | exact World.ownsRow.alloc (own_none (by first | rfl | simp) (by first | omega | simp)) _) (by first | omega | (simp; done) | (simp; omega)) (by omega) ?_; intro Aa ca wa hoa hba hga; have KA : Below W3.heap.size W3 wa := (show Below W3.heap.size W3 _ from by repeat (first | assumption | exact Below.refl _ _ | refine Below.drew ?_ | refine Below.alloc ?_ (by first | omega | (simp; done) | (simp; omega)) _)).trans hba; have hKA : W3.heap.size ≤ wa.heap.size := KA.size)
                    | (refine step_app rfl (.tmp 81) (.tmp 86) 28 65 rfl Try.underlying28 Consumer.infoE rfl (by omega) (by omega) Consumer.enc_len Consumer.enc_one W3.heap.size _ ca ([] ++ O.take 0) [x] (some ⟨_, 0, none⟩) 1 1 (0) (0 + 1) (by rw [List.nil_append]; exact hkt) rfl rfl (by simp [Act.eval, Act.put] <;> rfl) rfl (fun ad had j u hu => by cases had; first | exact box_of _ wa x _ rfl _ _ (by first | rfl | simp) j u hu | exact (hga.cell_far _ (by first | (simp [Addr.add_mid]; done) | (simp [Addr.add_mid]; omega)) (by first | (simp [Addr.add_mid, Value.ownBlock]; done) | (simp [Addr.add_mid, Value.ownBlock]; omega))).trans (box_of _ (W3.alloc (.cells #[] 65)) x _ rfl _ _ (by first | rfl | simp) j u hu) | exact (hga.cell_far _ (by first | (simp [Addr.add_mid]; done) | (simp [Addr.add_mid]; omega)) (by first | (simp [Addr.add_mid, Value.ownBlock]; done) | (simp [Addr.add_mid, Value.ownBlock]; omega))).trans ((World.cell?_alloc_lt _ _ _ (by simp [Addr.add_mid])).trans (box_of _ W3 x _ rfl _ _ (by first | rfl | simp) j u hu))) (fun h => by cases h) (by first | exact hoa | exact World.ownsRow.alloc hoa _) (by first | omega | (simp; done) | (simp; omega)) (by omega) ?_; intro Ab cb wb hob hbb hgb; have KB : Below W3.heap.size W3 wb := (show Below W3.heap.size W3 _ from by repeat (first | assumption | exact Below.refl _ _ | refine Below.drew ?_ | refine Below.alloc ?_ (by first | omega | (simp; done) | (simp; omega)) _)).trans hbb; have hKB : W3.heap.size ≤ wb.heap.size := KB.size)
                    | (refine step_app rfl (.tmp 87) (.tmp 90) 28 65 rfl Try.underlying28 Consumer.infoE rfl (by omega) (by omega) Consumer.enc_len Consumer.enc_one W3.heap.size _ cb ([] ++ O.take 0 ++ [x]) (([] : List Consumer)) (some ad) 0 cap (0 + 1) (0 + 1 + 0) (by rw [List.length_append, List.nil_append, hkt]; rfl) (by omega) rfl (by simp [Act.eval, Act.put]) rfl (fun ad had j u hu => by simp at hu) (fun h => by cases h) (by first | exact hob | exact World.ownsRow.alloc hob _) (by first | omega | (simp; done) | (simp; omega)) (by omega) ?_; intro Ac cc wc hoc hbc hgc; have KC : Below W3.heap.size W3 wc := (show Below W3.heap.size W3 _ from by repeat (first | assumption | exact Below.refl _ _ | refine Below.drew ?_ | refine Below.alloc ?_ (by first | omega | (simp; done) | (simp; omega)) _)).trans hbc))
                all_goals
                  rw [HKE.out] at hoc
                  go_wp2_with fail
                  rw [← HP.out] at hoc
                  obtain ⟨q2, hq2⟩ := own_some hoc (by rw [ordL_len, List.length_take]; omega)
                  subst hq2
                  have hz : 0 + 1 + 0 = 0 + 1 := by omega
                  rw [hz] at hoc
                  go_roundw
                  case rel => exact ⟨0 + 1, q2, cc, by omega, by go_num, by first | rfl | exact sl_eq (by omega), Own.mono_ hoc (by have := hbel.size; have := B3.size; omega), below_step (below_step hbel B3 (Nat.le_refl _)) KC (Nat.le_refl _)⟩
                  case measure => simp [intOf] <;> omega
          · obtain ⟨b0, o0, hA3, _⟩ := Consumer.rd_at hr (by intro h; rw [h] at hMl; simp at hMl; omega)
            subst hA3
            obtain ⟨b', o', hA2, hbw, hct, hcd⟩ := rd_part Consumer.enc_len hr (by intro h; rw [h] at hMl; simp at hMl; omega) 0
            cases hA2
            have hkl : (0 : Int) ≤ (k : Int) := by omega
            have hck : ¬ cap = 0 := by omega
            have hnk : ¬ (k : Int) = 0 := by omega
            simp only [Nat.zero_mul, Nat.add_zero] at hcd
            have hkt : (O.take 0).length = 0 := by rw [List.length_take]; omega
            have hkd : (O.drop 0).length = k := by rw [List.length_drop]; omega
            have hke : ([] ++ O.take 0 ++ [x]) ++ O.drop 0 = insL O 0 x := by simp [insL]
            have HKE := hide hke; clear hke
            go_wp2_with fail
            have K0 : Below W3.heap.size W3 W3 := Below.refl _ _
            have HF := hide (fun (X : World) (hX : Below W3.heap.size W3 X) => show X.cell? ⟨bl, ol + k * 3, none⟩ = some (.string x.name) ∧ X.cell? ⟨bl, ol + k * 3 + 1, none⟩ = some (.int .i64 x.watts) ∧ X.cell? ⟨bl, ol + k * 3 + 2, none⟩ = some (.int .i64 x.rank) from ⟨(hX.cell hS).trans s0, (hX.cell hS).trans s1, (hX.cell hS).trans s2⟩)
            go_region_held_law (fun w' => w'.cell? ⟨bl, ol + k * 3, none⟩ = some (.string x.name) ∧ w'.cell? ⟨bl, ol + k * 3 + 1, none⟩ = some (.int .i64 x.watts) ∧ w'.cell? ⟨bl, ol + k * 3 + 2, none⟩ = some (.int .i64 x.rank)) (exact HF.out _ (by repeat (first | assumption | exact Below.refl _ _ | refine Below.drew ?_ | refine Below.alloc ?_ (by first | omega | (simp; done) | (simp; omega)) _)))
              (first
                | (refine step_app rfl (.tmp 77) (.tmp 80) 28 65 rfl Try.underlying28 Consumer.infoE rfl (by omega) (by omega) Consumer.enc_len Consumer.enc_one W3.heap.size _ 0 [] (O.take 0) (some ⟨b0, o0, none⟩) 0 cap 0 0 rfl (by omega) rfl (by simp [Act.eval, Act.put]) hkt (fun ad had j u hu => by cases had; rw [Addr.add_mid]; exact ((show Below W3.heap.size W3 _ from by repeat (first | assumption | exact Below.refl _ _ | refine Below.drew ?_ | refine Below.alloc ?_ (by first | omega | (simp; done) | (simp; omega)) _)).cell hbw).trans (hct j u hu)) (fun h => by cases h) (by first | exact own_none (by first | rfl | simp) (by first | omega | simp) | exact World.ownsRow.alloc (own_none (by first | rfl | simp) (by first | omega | simp)) _) (by first | omega | (simp; done) | (simp; omega)) (by omega) ?_; intro Aa ca wa hoa hba hga; have KA : Below W3.heap.size W3 wa := (show Below W3.heap.size W3 _ from by repeat (first | assumption | exact Below.refl _ _ | refine Below.drew ?_ | refine Below.alloc ?_ (by first | omega | (simp; done) | (simp; omega)) _)).trans hba; have hKA : W3.heap.size ≤ wa.heap.size := KA.size)
                | (refine step_app rfl (.tmp 81) (.tmp 86) 28 65 rfl Try.underlying28 Consumer.infoE rfl (by omega) (by omega) Consumer.enc_len Consumer.enc_one W3.heap.size _ ca ([] ++ O.take 0) [x] (some ⟨_, 0, none⟩) 1 1 (0) (0 + 1) (by rw [List.nil_append]; exact hkt) rfl rfl (by simp [Act.eval, Act.put] <;> rfl) rfl (fun ad had j u hu => by cases had; first | exact box_of _ wa x _ rfl _ _ (by first | rfl | simp) j u hu | exact (hga.cell_far _ (by first | (simp [Addr.add_mid]; done) | (simp [Addr.add_mid]; omega)) (by first | (simp [Addr.add_mid, Value.ownBlock]; done) | (simp [Addr.add_mid, Value.ownBlock]; omega))).trans (box_of _ (W3.alloc (.cells #[] 65)) x _ rfl _ _ (by first | rfl | simp) j u hu) | exact (hga.cell_far _ (by first | (simp [Addr.add_mid]; done) | (simp [Addr.add_mid]; omega)) (by first | (simp [Addr.add_mid, Value.ownBlock]; done) | (simp [Addr.add_mid, Value.ownBlock]; omega))).trans ((World.cell?_alloc_lt _ _ _ (by simp [Addr.add_mid])).trans (box_of _ W3 x _ rfl _ _ (by first | rfl | simp) j u hu))) (fun h => by cases h) (by first | exact hoa | exact World.ownsRow.alloc hoa _) (by first | omega | (simp; done) | (simp; omega)) (by omega) ?_; intro Ab cb wb hob hbb hgb; have KB : Below W3.heap.size W3 wb := (show Below W3.heap.size W3 _ from by repeat (first | assumption | exact Below.refl _ _ | refine Below.drew ?_ | refine Below.alloc ?_ (by first | omega | (simp; done) | (simp; omega)) _)).trans hbb; have hKB : W3.heap.size ≤ wb.heap.size := KB.size)
                | (refine step_app rfl (.tmp 87) (.tmp 90) 28 65 rfl Try.underlying28 Consumer.infoE rfl (by omega) (by omega) Consumer.enc_len Consumer.enc_one W3.heap.size _ cb ([] ++ O.take 0 ++ [x]) (O.drop 0) (some ⟨b0, o0, none⟩) k cap (0 + 1) (0 + 1 + k) (by rw [List.length_append, List.nil_append, hkt]; rfl) (by omega) rfl (by simp [Act.eval, Act.put]) hkd (fun ad had j u hu => by cases had; rw [Addr.add_mid]; exact ((show Below W3.heap.size W3 _ from by repeat (first | assumption | exact Below.refl _ _ | refine Below.drew ?_ | refine Below.alloc ?_ (by first | omega | (simp; done) | (simp; omega)) _)).cell hbw).trans (hcd j u hu)) (fun h => by cases h) (by first | exact hob | exact World.ownsRow.alloc hob _) (by first | omega | (simp; done) | (simp; omega)) (by omega) ?_; intro Ac cc wc hoc hbc hgc; have KC : Below W3.heap.size W3 wc := (show Below W3.heap.size W3 _ from by repeat (first | assumption | exact Below.refl _ _ | refine Below.drew ?_ | refine Below.alloc ?_ (by first | omega | (simp; done) | (simp; omega)) _)).trans hbc))
            all_goals
              rw [HKE.out] at hoc
              go_wp2_with fail
              rw [← HP.out] at hoc
              obtain ⟨q2, hq2⟩ := own_some hoc (by rw [ordL_len, List.length_take]; omega)
              subst hq2
              have hz : 0 + 1 + k = k + 1 := by omega
              rw [hz] at hoc
              go_roundw
              case rel => exact ⟨k + 1, q2, cc, by omega, by go_num, by first | rfl | exact sl_eq (by omega), Own.mono_ hoc (by have := hbel.size; have := B3.size; omega), below_step (below_step hbel B3 (Nat.le_refl _)) KC (Nat.le_refl _)⟩
              case measure => simp [intOf] <;> omega
        · obtain ⟨m, hm⟩ : ∃ m : Nat, m = p - 1 := ⟨_, rfl⟩
          have hmk : m < k := by omega
          obtain ⟨c, hc⟩ : ∃ c, O[m]? = some c := ⟨_, List.getElem?_eq_getElem (by omega)⟩
          have hoL : Own Consumer.enc 3 65 w1.heap.size W1 (.slice (some ⟨q, 0, none⟩) O.length cap) O := by rw [hMl]; exact HO.out
          have y1 := own_cell (Own.below hoL hb2) (flat_get Consumer.enc_len O m c hc 1 _ rfl)
          have y2 := own_cell (Own.below hoL hb2) (flat_get Consumer.enc_len O m c hc 2 _ rfl)
          have HC := hide hc; clear hc hoL
          have hw1 : IntKind.i64.wrap ((p : Int) - 1) = (m : Int) := by rw [IntKind.wrap_i64]; omega
          have hw2 : IntKind.i64.wrap (m : Int) = (m : Int) := by rw [IntKind.wrap_i64]; omega
          have hw4 : wrap64 ((p : Int) - 1) = (m : Int) := by unfold wrap64; omega
          have hpi : (m : Int) < (k : Int) := by omega
          have hpp : decide (0 < p) = true := decide_eq_true (by omega)
          have HM := hide hm; clear hm
          have a0 := after_cell x1; have a1 := after_cell x2; have a2 := after_cell y1; have a3 := after_cell y2
          by_cases hgt : c.rank < x.rank
          · have hd : decide (c.rank < x.rank) = true := decide_eq_true hgt
            have HGT := hide (show gtF c x = true by simp [gtF, hgt])
            go_wp2_with fail
            refine wp_region_after (by kernel_rfl) (by kernel_rfl) ?_
            repeat (go_big_quiet_step (fail))
            refine wpQuiet_nil ?_
            rintro W3 ⟨⟨_, hb3⟩, rfl⟩
            clear a0 a1 a2 a3
            have hm := HM.out
            go_wp2_with fail
            go_roundw
            case rel => exact ⟨m, by omega, by go_num, hide (fun j d hj hd2 => by
              rcases Nat.lt_or_eq_of_le hj with h3 | h3
              · exact hhi.out j d (by omega) hd2
              · subst h3; rw [HC.out] at hd2; injection hd2 with hd2; rw [← hd2]; exact HGT.out), below_step hb2 hb3 (Nat.le_refl _)⟩
            case measure => simp [intOf] <;> omega
          · have hd : decide (c.rank < x.rank) = false := decide_eq_false hgt
            by_cases heq : c.rank = x.rank
            · have hq2 : decide (c.rank = x.rank) = true := decide_eq_true heq; have hq2b : (c.rank == x.rank) = true := beq_iff_eq.2 heq
              by_cases hgw : c.watts < x.watts
              · have hq3 : decide (c.watts < x.watts) = true := decide_eq_true hgw
                have HGT := hide (show gtF c x = true by simp [gtF, heq, hgw])
                go_wp2_with fail
                refine wp_region_after (by kernel_rfl) (by kernel_rfl) ?_
                repeat (go_big_quiet_step (fail))
                refine wpQuiet_nil ?_
                rintro W3 ⟨⟨_, hb3⟩, rfl⟩
                clear a0 a1 a2 a3
                have hm := HM.out
                go_wp2_with fail
                go_roundw
                case rel => exact ⟨m, by omega, by go_num, hide (fun j d hj hd2 => by
                  rcases Nat.lt_or_eq_of_le hj with h3 | h3
                  · exact hhi.out j d (by omega) hd2
                  · subst h3; rw [HC.out] at hd2; injection hd2 with hd2; rw [← hd2]; exact HGT.out), below_step hb2 hb3 (Nat.le_refl _)⟩
                case measure => simp [intOf] <;> omega
              · have hq3 : decide (c.watts < x.watts) = false := decide_eq_false hgw
                have HP := hide (HEND.out (fun d _ hd2 => by rw [← HM.out, HC.out] at hd2; injection hd2 with hd2; rw [← hd2]; simp [gtF, hd, hq2, hq3]))
                go_wp2_with fail
                refine wp_region_after (by kernel_rfl) (by kernel_rfl) ?_
                repeat (go_big_quiet_step (fail))
                refine wpQuiet_nil ?_
                rintro W3 ⟨⟨_, hb3⟩, rfl⟩
                clear a0 a1 a2 a3
                clear hw1 hw2 hw4 hpp HEND hhi y1 y2
                have B3 := below_step hb2 hb3 (Nat.le_refl _)
                have s0 := below_cell hb3 x0; have s1 := below_cell hb3 x1; have s2 := below_cell hb3 x2; clear x0 x1 x2
                have hS : bl < W3.heap.size := World.block_lt_of_cell? _ _ s0
                have hr : Rd Consumer.enc 3 W3.heap.size W3 (some ⟨q, 0, none⟩) O := Own.rd_of Consumer.enc_len (Own.below HO.out B3)
                have hA : (some ⟨q, 0, none⟩ : Option Addr) ≠ none := by simp
                obtain ⟨A, hAq⟩ : ∃ A : Option Addr, A = some ⟨q, 0, none⟩ := ⟨_, rfl⟩
                rw [← hAq] at hr hA ⊢
                clear hAq
                by_cases hpk2 : p < k
                · obtain ⟨b0, o0, hA3, _⟩ := Consumer.rd_at hr (by intro h; rw [h] at hMl; simp at hMl; omega)
                  subst hA3
                  obtain ⟨b', o', hA2, hbw, hct, hcd⟩ := rd_part Consumer.enc_len hr (by intro h; rw [h] at hMl; simp at hMl; omega) p
                  cases hA2
                  have hk0 : (0 : Int) ≤ (p : Int) := by omega
                  have hkl : (p : Int) ≤ (k : Int) := by omega
                  have hkc : p ≤ cap := by omega
                  have hck : ¬ cap = p := by omega
                  have hkt : (O.take p).length = p := by rw [List.length_take]; omega
                  have hkd : (O.drop p).length = (k - p) := by rw [List.length_drop]; omega
                  have hke : ([] ++ O.take p ++ [x]) ++ O.drop p = insL O p x := by simp [insL]
                  have HKE := hide hke; clear hke
                  go_wp2_with fail
                  have K0 : Below W3.heap.size W3 W3 := Below.refl _ _
                  have HF := hide (fun (X : World) (hX : Below W3.heap.size W3 X) => show X.cell? ⟨bl, ol + k * 3, none⟩ = some (.string x.name) ∧ X.cell? ⟨bl, ol + k * 3 + 1, none⟩ = some (.int .i64 x.watts) ∧ X.cell? ⟨bl, ol + k * 3 + 2, none⟩ = some (.int .i64 x.rank) from ⟨(hX.cell hS).trans s0, (hX.cell hS).trans s1, (hX.cell hS).trans s2⟩)
                  go_region_held_law (fun w' => w'.cell? ⟨bl, ol + k * 3, none⟩ = some (.string x.name) ∧ w'.cell? ⟨bl, ol + k * 3 + 1, none⟩ = some (.int .i64 x.watts) ∧ w'.cell? ⟨bl, ol + k * 3 + 2, none⟩ = some (.int .i64 x.rank)) (exact HF.out _ (by repeat (first | assumption | exact Below.refl _ _ | refine Below.drew ?_ | refine Below.alloc ?_ (by first | omega | (simp; done) | (simp; omega)) _)))
                    (first
                      | (refine step_app rfl (.tmp 77) (.tmp 80) 28 65 rfl Try.underlying28 Consumer.infoE rfl (by omega) (by omega) Consumer.enc_len Consumer.enc_one W3.heap.size _ 0 [] (O.take p) (some ⟨b0, o0, none⟩) p cap 0 p rfl (by omega) rfl (by simp [Act.eval, Act.put]) hkt (fun ad had j u hu => by cases had; rw [Addr.add_mid]; exact ((show Below W3.heap.size W3 _ from by repeat (first | assumption | exact Below.refl _ _ | refine Below.drew ?_ | refine Below.alloc ?_ (by first | omega | (simp; done) | (simp; omega)) _)).cell hbw).trans (hct j u hu)) (fun h => by cases h) (by first | exact own_none (by first | rfl | simp) (by first | omega | simp) | exact World.ownsRow.alloc (own_none (by first | rfl | simp) (by first | omega | simp)) _) (by first | omega | (simp; done) | (simp; omega)) (by omega) ?_; intro Aa ca wa hoa hba hga; have KA : Below W3.heap.size W3 wa := (show Below W3.heap.size W3 _ from by repeat (first | assumption | exact Below.refl _ _ | refine Below.drew ?_ | refine Below.alloc ?_ (by first | omega | (simp; done) | (simp; omega)) _)).trans hba; have hKA : W3.heap.size ≤ wa.heap.size := KA.size)
                      | (refine step_app rfl (.tmp 81) (.tmp 86) 28 65 rfl Try.underlying28 Consumer.infoE rfl (by omega) (by omega) Consumer.enc_len Consumer.enc_one W3.heap.size _ ca ([] ++ O.take p) [x] (some ⟨_, 0, none⟩) 1 1 (p) (p + 1) (by rw [List.nil_append]; exact hkt) rfl rfl (by simp [Act.eval, Act.put] <;> rfl) rfl (fun ad had j u hu => by cases had; first | exact box_of _ wa x _ rfl _ _ (by first | rfl | simp) j u hu | exact (hga.cell_far _ (by first | (simp [Addr.add_mid]; done) | (simp [Addr.add_mid]; omega)) (by first | (simp [Addr.add_mid, Value.ownBlock]; done) | (simp [Addr.add_mid, Value.ownBlock]; omega))).trans (box_of _ (W3.alloc (.cells #[] 65)) x _ rfl _ _ (by first | rfl | simp) j u hu) | exact (hga.cell_far _ (by first | (simp [Addr.add_mid]; done) | (simp [Addr.add_mid]; omega)) (by first | (simp [Addr.add_mid, Value.ownBlock]; done) | (simp [Addr.add_mid, Value.ownBlock]; omega))).trans ((World.cell?_alloc_lt _ _ _ (by simp [Addr.add_mid])).trans (box_of _ W3 x _ rfl _ _ (by first | rfl | simp) j u hu))) (fun h => by cases h) (by first | exact hoa | exact World.ownsRow.alloc hoa _) (by first | omega | (simp; done) | (simp; omega)) (by omega) ?_; intro Ab cb wb hob hbb hgb; have KB : Below W3.heap.size W3 wb := (show Below W3.heap.size W3 _ from by repeat (first | assumption | exact Below.refl _ _ | refine Below.drew ?_ | refine Below.alloc ?_ (by first | omega | (simp; done) | (simp; omega)) _)).trans hbb; have hKB : W3.heap.size ≤ wb.heap.size := KB.size)
                      | (refine step_app rfl (.tmp 87) (.tmp 90) 28 65 rfl Try.underlying28 Consumer.infoE rfl (by omega) (by omega) Consumer.enc_len Consumer.enc_one W3.heap.size _ cb ([] ++ O.take p ++ [x]) (O.drop p) (some ⟨b0, o0 + p * 3, none⟩) (k - p) (cap - p) (p + 1) (p + 1 + (k - p)) (by rw [List.length_append, List.nil_append, hkt]; rfl) (by omega) rfl (by simp [Act.eval, Act.put]) hkd (fun ad had j u hu => by cases had; rw [Addr.add_mid]; exact ((show Below W3.heap.size W3 _ from by repeat (first | assumption | exact Below.refl _ _ | refine Below.drew ?_ | refine Below.alloc ?_ (by first | omega | (simp; done) | (simp; omega)) _)).cell hbw).trans (hcd j u hu)) (fun h => by cases h) (by first | exact hob | exact World.ownsRow.alloc hob _) (by first | omega | (simp; done) | (simp; omega)) (by omega) ?_; intro Ac cc wc hoc hbc hgc; have KC : Below W3.heap.size W3 wc := (show Below W3.heap.size W3 _ from by repeat (first | assumption | exact Below.refl _ _ | refine Below.drew ?_ | refine Below.alloc ?_ (by first | omega | (simp; done) | (simp; omega)) _)).trans hbc))
                  all_goals
                    rw [HKE.out] at hoc
                    go_wp2_with fail
                    rw [← HP.out] at hoc
                    obtain ⟨q2, hq2⟩ := own_some hoc (by rw [ordL_len, List.length_take]; omega)
                    subst hq2
                    have hz : p + 1 + (k - p) = k + 1 := by omega
                    rw [hz] at hoc
                    go_roundw
                    case rel => exact ⟨k + 1, q2, cc, by omega, by go_num, by first | rfl | exact sl_eq (by omega), Own.mono_ hoc (by have := hbel.size; have := B3.size; omega), below_step (below_step hbel B3 (Nat.le_refl _)) KC (Nat.le_refl _)⟩
                    case measure => simp [intOf] <;> omega
                · obtain rfl : k = p := by omega
                  have hn0 : ¬ k = 0 := hp0
                  rcases A with _ | ad
                  · exact absurd rfl hA
                  · have hn0' := hn0
                    have hk0 : (0 : Int) ≤ (k : Int) := by omega
                    obtain ⟨b, o, hA2, hbw, hct, _⟩ := rd_part Consumer.enc_len hr (by intro h; rw [h] at hMl; simp at hMl; omega) k
                    cases hA2
                    by_cases hck : cap = k
                    · have hck2 := hck.symm; clear hck
                      subst hck2
                      have hkt : (O.take k).length = k := by rw [List.length_take]; omega
                      have hdk : O.drop k = [] := by rw [List.drop_eq_nil_iff]; omega
                      have hke : ([] ++ O.take k ++ [x]) ++ ([] : List Consumer) = insL O k x := by unfold insL; rw [hdk]; simp
                      clear hdk
                      have HKE := hide hke; clear hke
                      go_wp2_with fail
                      have K0 : Below W3.heap.size W3 W3 := Below.refl _ _
                      have HF := hide (fun (X : World) (hX : Below W3.heap.size W3 X) => show X.cell? ⟨bl, ol + k * 3, none⟩ = some (.string x.name) ∧ X.cell? ⟨bl, ol + k * 3 + 1, none⟩ = some (.int .i64 x.watts) ∧ X.cell? ⟨bl, ol + k * 3 + 2, none⟩ = some (.int .i64 x.rank) from ⟨(hX.cell hS).trans s0, (hX.cell hS).trans s1, (hX.cell hS).trans s2⟩)
                      go_region_held_law (fun w' => w'.cell? ⟨bl, ol + k * 3, none⟩ = some (.string x.name) ∧ w'.cell? ⟨bl, ol + k * 3 + 1, none⟩ = some (.int .i64 x.watts) ∧ w'.cell? ⟨bl, ol + k * 3 + 2, none⟩ = some (.int .i64 x.rank)) (exact HF.out _ (by repeat (first | assumption | exact Below.refl _ _ | refine Below.drew ?_ | refine Below.alloc ?_ (by first | omega | (simp; done) | (simp; omega)) _)))
                        (first
                          | (refine step_app rfl (.tmp 77) (.tmp 80) 28 65 rfl Try.underlying28 Consumer.infoE rfl (by omega) (by omega) Consumer.enc_len Consumer.enc_one W3.heap.size _ 0 [] (O.take k) (some ⟨b, o, none⟩) k k 0 k rfl (by omega) rfl (by simp [Act.eval, Act.put]) hkt (fun ad had j u hu => by cases had; rw [Addr.add_mid]; exact ((show Below W3.heap.size W3 _ from by repeat (first | assumption | exact Below.refl _ _ | refine Below.drew ?_ | refine Below.alloc ?_ (by first | omega | (simp; done) | (simp; omega)) _)).cell hbw).trans (hct j u hu)) (fun h => by cases h) (by first | exact own_none (by first | rfl | simp) (by first | omega | simp) | exact World.ownsRow.alloc (own_none (by first | rfl | simp) (by first | omega | simp)) _) (by first | omega | (simp; done) | (simp; omega)) (by omega) ?_; intro Aa ca wa hoa hba hga; have KA : Below W3.heap.size W3 wa := (show Below W3.heap.size W3 _ from by repeat (first | assumption | exact Below.refl _ _ | refine Below.drew ?_ | refine Below.alloc ?_ (by first | omega | (simp; done) | (simp; omega)) _)).trans hba; have hKA : W3.heap.size ≤ wa.heap.size := KA.size)
                          | (refine step_app rfl (.tmp 81) (.tmp 86) 28 65 rfl Try.underlying28 Consumer.infoE rfl (by omega) (by omega) Consumer.enc_len Consumer.enc_one W3.heap.size _ ca ([] ++ O.take k) [x] (some ⟨_, 0, none⟩) 1 1 (k) (k + 1) (by rw [List.nil_append]; exact hkt) rfl rfl (by simp [Act.eval, Act.put] <;> rfl) rfl (fun ad had j u hu => by cases had; first | exact box_of _ wa x _ rfl _ _ (by first | rfl | simp) j u hu | exact (hga.cell_far _ (by first | (simp [Addr.add_mid]; done) | (simp [Addr.add_mid]; omega)) (by first | (simp [Addr.add_mid, Value.ownBlock]; done) | (simp [Addr.add_mid, Value.ownBlock]; omega))).trans (box_of _ (W3.alloc (.cells #[] 65)) x _ rfl _ _ (by first | rfl | simp) j u hu) | exact (hga.cell_far _ (by first | (simp [Addr.add_mid]; done) | (simp [Addr.add_mid]; omega)) (by first | (simp [Addr.add_mid, Value.ownBlock]; done) | (simp [Addr.add_mid, Value.ownBlock]; omega))).trans ((World.cell?_alloc_lt _ _ _ (by simp [Addr.add_mid])).trans (box_of _ W3 x _ rfl _ _ (by first | rfl | simp) j u hu))) (fun h => by cases h) (by first | exact hoa | exact World.ownsRow.alloc hoa _) (by first | omega | (simp; done) | (simp; omega)) (by omega) ?_; intro Ab cb wb hob hbb hgb; have KB : Below W3.heap.size W3 wb := (show Below W3.heap.size W3 _ from by repeat (first | assumption | exact Below.refl _ _ | refine Below.drew ?_ | refine Below.alloc ?_ (by first | omega | (simp; done) | (simp; omega)) _)).trans hbb; have hKB : W3.heap.size ≤ wb.heap.size := KB.size)
                          | (refine step_app rfl (.tmp 87) (.tmp 90) 28 65 rfl Try.underlying28 Consumer.infoE rfl (by omega) (by omega) Consumer.enc_len Consumer.enc_one W3.heap.size _ cb ([] ++ O.take k ++ [x]) (([] : List Consumer)) (some ⟨b, o, none⟩) 0 0 (k + 1) (k + 1 + 0) (by rw [List.length_append, List.nil_append, hkt]; rfl) (by omega) rfl (by simp [Act.eval, Act.put]) rfl (fun ad had j u hu => by simp at hu) (fun h => by cases h) (by first | exact hob | exact World.ownsRow.alloc hob _) (by first | omega | (simp; done) | (simp; omega)) (by omega) ?_; intro Ac cc wc hoc hbc hgc; have KC : Below W3.heap.size W3 wc := (show Below W3.heap.size W3 _ from by repeat (first | assumption | exact Below.refl _ _ | refine Below.drew ?_ | refine Below.alloc ?_ (by first | omega | (simp; done) | (simp; omega)) _)).trans hbc))
                      all_goals
                        rw [HKE.out] at hoc
                        go_wp2_with fail
                        rw [← HP.out] at hoc
                        obtain ⟨q2, hq2⟩ := own_some hoc (by rw [ordL_len, List.length_take]; omega)
                        subst hq2
                        have hz : k + 1 + 0 = k + 1 := by omega
                        rw [hz] at hoc
                        go_roundw
                        case rel => exact ⟨k + 1, q2, cc, by omega, by go_num, by first | rfl | exact sl_eq (by omega), Own.mono_ hoc (by have := hbel.size; have := B3.size; omega), below_step (below_step hbel B3 (Nat.le_refl _)) KC (Nat.le_refl _)⟩
                        case measure => simp [intOf] <;> omega
                    · have hck3 : ¬ k = cap := fun h => hck h.symm
                      have hkc : k ≤ cap := by omega
                      have hkt : (O.take k).length = k := by rw [List.length_take]; omega
                      have hdk : O.drop k = [] := by rw [List.drop_eq_nil_iff]; omega
                      have hke : ([] ++ O.take k ++ [x]) ++ ([] : List Consumer) = insL O k x := by unfold insL; rw [hdk]; simp
                      clear hdk
                      have HKE := hide hke; clear hke
                      go_wp2_with fail
                      have K0 : Below W3.heap.size W3 W3 := Below.refl _ _
                      have HF := hide (fun (X : World) (hX : Below W3.heap.size W3 X) => show X.cell? ⟨bl, ol + k * 3, none⟩ = some (.string x.name) ∧ X.cell? ⟨bl, ol + k * 3 + 1, none⟩ = some (.int .i64 x.watts) ∧ X.cell? ⟨bl, ol + k * 3 + 2, none⟩ = some (.int .i64 x.rank) from ⟨(hX.cell hS).trans s0, (hX.cell hS).trans s1, (hX.cell hS).trans s2⟩)
                      go_region_held_law (fun w' => w'.cell? ⟨bl, ol + k * 3, none⟩ = some (.string x.name) ∧ w'.cell? ⟨bl, ol + k * 3 + 1, none⟩ = some (.int .i64 x.watts) ∧ w'.cell? ⟨bl, ol + k * 3 + 2, none⟩ = some (.int .i64 x.rank)) (exact HF.out _ (by repeat (first | assumption | exact Below.refl _ _ | refine Below.drew ?_ | refine Below.alloc ?_ (by first | omega | (simp; done) | (simp; omega)) _)))
                        (first
                          | (refine step_app rfl (.tmp 77) (.tmp 80) 28 65 rfl Try.underlying28 Consumer.infoE rfl (by omega) (by omega) Consumer.enc_len Consumer.enc_one W3.heap.size _ 0 [] (O.take k) (some ⟨b, o, none⟩) k cap 0 k rfl (by omega) rfl (by simp [Act.eval, Act.put]) hkt (fun ad had j u hu => by cases had; rw [Addr.add_mid]; exact ((show Below W3.heap.size W3 _ from by repeat (first | assumption | exact Below.refl _ _ | refine Below.drew ?_ | refine Below.alloc ?_ (by first | omega | (simp; done) | (simp; omega)) _)).cell hbw).trans (hct j u hu)) (fun h => by cases h) (by first | exact own_none (by first | rfl | simp) (by first | omega | simp) | exact World.ownsRow.alloc (own_none (by first | rfl | simp) (by first | omega | simp)) _) (by first | omega | (simp; done) | (simp; omega)) (by omega) ?_; intro Aa ca wa hoa hba hga; have KA : Below W3.heap.size W3 wa := (show Below W3.heap.size W3 _ from by repeat (first | assumption | exact Below.refl _ _ | refine Below.drew ?_ | refine Below.alloc ?_ (by first | omega | (simp; done) | (simp; omega)) _)).trans hba; have hKA : W3.heap.size ≤ wa.heap.size := KA.size)
                          | (refine step_app rfl (.tmp 81) (.tmp 86) 28 65 rfl Try.underlying28 Consumer.infoE rfl (by omega) (by omega) Consumer.enc_len Consumer.enc_one W3.heap.size _ ca ([] ++ O.take k) [x] (some ⟨_, 0, none⟩) 1 1 (k) (k + 1) (by rw [List.nil_append]; exact hkt) rfl rfl (by simp [Act.eval, Act.put] <;> rfl) rfl (fun ad had j u hu => by cases had; first | exact box_of _ wa x _ rfl _ _ (by first | rfl | simp) j u hu | exact (hga.cell_far _ (by first | (simp [Addr.add_mid]; done) | (simp [Addr.add_mid]; omega)) (by first | (simp [Addr.add_mid, Value.ownBlock]; done) | (simp [Addr.add_mid, Value.ownBlock]; omega))).trans (box_of _ (W3.alloc (.cells #[] 65)) x _ rfl _ _ (by first | rfl | simp) j u hu) | exact (hga.cell_far _ (by first | (simp [Addr.add_mid]; done) | (simp [Addr.add_mid]; omega)) (by first | (simp [Addr.add_mid, Value.ownBlock]; done) | (simp [Addr.add_mid, Value.ownBlock]; omega))).trans ((World.cell?_alloc_lt _ _ _ (by simp [Addr.add_mid])).trans (box_of _ W3 x _ rfl _ _ (by first | rfl | simp) j u hu))) (fun h => by cases h) (by first | exact hoa | exact World.ownsRow.alloc hoa _) (by first | omega | (simp; done) | (simp; omega)) (by omega) ?_; intro Ab cb wb hob hbb hgb; have KB : Below W3.heap.size W3 wb := (show Below W3.heap.size W3 _ from by repeat (first | assumption | exact Below.refl _ _ | refine Below.drew ?_ | refine Below.alloc ?_ (by first | omega | (simp; done) | (simp; omega)) _)).trans hbb; have hKB : W3.heap.size ≤ wb.heap.size := KB.size)
                          | (refine step_app rfl (.tmp 87) (.tmp 90) 28 65 rfl Try.underlying28 Consumer.infoE rfl (by omega) (by omega) Consumer.enc_len Consumer.enc_one W3.heap.size _ cb ([] ++ O.take k ++ [x]) (([] : List Consumer)) (some ⟨b, o + k * 3, none⟩) 0 (cap - k) (k + 1) (k + 1 + 0) (by rw [List.length_append, List.nil_append, hkt]; rfl) (by omega) rfl (by simp [Act.eval, Act.put]) rfl (fun ad had j u hu => by simp at hu) (fun h => by cases h) (by first | exact hob | exact World.ownsRow.alloc hob _) (by first | omega | (simp; done) | (simp; omega)) (by omega) ?_; intro Ac cc wc hoc hbc hgc; have KC : Below W3.heap.size W3 wc := (show Below W3.heap.size W3 _ from by repeat (first | assumption | exact Below.refl _ _ | refine Below.drew ?_ | refine Below.alloc ?_ (by first | omega | (simp; done) | (simp; omega)) _)).trans hbc))
                      all_goals
                        rw [HKE.out] at hoc
                        go_wp2_with fail
                        rw [← HP.out] at hoc
                        obtain ⟨q2, hq2⟩ := own_some hoc (by rw [ordL_len, List.length_take]; omega)
                        subst hq2
                        have hz : k + 1 + 0 = k + 1 := by omega
                        rw [hz] at hoc
                        go_roundw
                        case rel => exact ⟨k + 1, q2, cc, by omega, by go_num, by first | rfl | exact sl_eq (by omega), Own.mono_ hoc (by have := hbel.size; have := B3.size; omega), below_step (below_step hbel B3 (Nat.le_refl _)) KC (Nat.le_refl _)⟩
                        case measure => simp [intOf] <;> omega
            · have hq2 : decide (c.rank = x.rank) = false := decide_eq_false heq; have hq2b : (c.rank == x.rank) = false := beq_eq_false_iff_ne.2 heq
              have HP := hide (HEND.out (fun d _ hd2 => by rw [← HM.out, HC.out] at hd2; injection hd2 with hd2; rw [← hd2]; simp [gtF, hd, hq2]))
              go_wp2_with fail
              refine wp_region_after (by kernel_rfl) (by kernel_rfl) ?_
              repeat (go_big_quiet_step (fail))
              refine wpQuiet_nil ?_
              rintro W3 ⟨⟨_, hb3⟩, rfl⟩
              clear a0 a1 a2 a3
              clear hw1 hw2 hw4 hpp HEND hhi y1 y2
              have B3 := below_step hb2 hb3 (Nat.le_refl _)
              have s0 := below_cell hb3 x0; have s1 := below_cell hb3 x1; have s2 := below_cell hb3 x2; clear x0 x1 x2
              have hS : bl < W3.heap.size := World.block_lt_of_cell? _ _ s0
              have hr : Rd Consumer.enc 3 W3.heap.size W3 (some ⟨q, 0, none⟩) O := Own.rd_of Consumer.enc_len (Own.below HO.out B3)
              have hA : (some ⟨q, 0, none⟩ : Option Addr) ≠ none := by simp
              obtain ⟨A, hAq⟩ : ∃ A : Option Addr, A = some ⟨q, 0, none⟩ := ⟨_, rfl⟩
              rw [← hAq] at hr hA ⊢
              clear hAq
              by_cases hpk2 : p < k
              · obtain ⟨b0, o0, hA3, _⟩ := Consumer.rd_at hr (by intro h; rw [h] at hMl; simp at hMl; omega)
                subst hA3
                obtain ⟨b', o', hA2, hbw, hct, hcd⟩ := rd_part Consumer.enc_len hr (by intro h; rw [h] at hMl; simp at hMl; omega) p
                cases hA2
                have hk0 : (0 : Int) ≤ (p : Int) := by omega
                have hkl : (p : Int) ≤ (k : Int) := by omega
                have hkc : p ≤ cap := by omega
                have hck : ¬ cap = p := by omega
                have hkt : (O.take p).length = p := by rw [List.length_take]; omega
                have hkd : (O.drop p).length = (k - p) := by rw [List.length_drop]; omega
                have hke : ([] ++ O.take p ++ [x]) ++ O.drop p = insL O p x := by simp [insL]
                have HKE := hide hke; clear hke
                go_wp2_with fail
                have K0 : Below W3.heap.size W3 W3 := Below.refl _ _
                have HF := hide (fun (X : World) (hX : Below W3.heap.size W3 X) => show X.cell? ⟨bl, ol + k * 3, none⟩ = some (.string x.name) ∧ X.cell? ⟨bl, ol + k * 3 + 1, none⟩ = some (.int .i64 x.watts) ∧ X.cell? ⟨bl, ol + k * 3 + 2, none⟩ = some (.int .i64 x.rank) from ⟨(hX.cell hS).trans s0, (hX.cell hS).trans s1, (hX.cell hS).trans s2⟩)
                go_region_held_law (fun w' => w'.cell? ⟨bl, ol + k * 3, none⟩ = some (.string x.name) ∧ w'.cell? ⟨bl, ol + k * 3 + 1, none⟩ = some (.int .i64 x.watts) ∧ w'.cell? ⟨bl, ol + k * 3 + 2, none⟩ = some (.int .i64 x.rank)) (exact HF.out _ (by repeat (first | assumption | exact Below.refl _ _ | refine Below.drew ?_ | refine Below.alloc ?_ (by first | omega | (simp; done) | (simp; omega)) _)))
                  (first
                    | (refine step_app rfl (.tmp 77) (.tmp 80) 28 65 rfl Try.underlying28 Consumer.infoE rfl (by omega) (by omega) Consumer.enc_len Consumer.enc_one W3.heap.size _ 0 [] (O.take p) (some ⟨b0, o0, none⟩) p cap 0 p rfl (by omega) rfl (by simp [Act.eval, Act.put]) hkt (fun ad had j u hu => by cases had; rw [Addr.add_mid]; exact ((show Below W3.heap.size W3 _ from by repeat (first | assumption | exact Below.refl _ _ | refine Below.drew ?_ | refine Below.alloc ?_ (by first | omega | (simp; done) | (simp; omega)) _)).cell hbw).trans (hct j u hu)) (fun h => by cases h) (by first | exact own_none (by first | rfl | simp) (by first | omega | simp) | exact World.ownsRow.alloc (own_none (by first | rfl | simp) (by first | omega | simp)) _) (by first | omega | (simp; done) | (simp; omega)) (by omega) ?_; intro Aa ca wa hoa hba hga; have KA : Below W3.heap.size W3 wa := (show Below W3.heap.size W3 _ from by repeat (first | assumption | exact Below.refl _ _ | refine Below.drew ?_ | refine Below.alloc ?_ (by first | omega | (simp; done) | (simp; omega)) _)).trans hba; have hKA : W3.heap.size ≤ wa.heap.size := KA.size)
                    | (refine step_app rfl (.tmp 81) (.tmp 86) 28 65 rfl Try.underlying28 Consumer.infoE rfl (by omega) (by omega) Consumer.enc_len Consumer.enc_one W3.heap.size _ ca ([] ++ O.take p) [x] (some ⟨_, 0, none⟩) 1 1 (p) (p + 1) (by rw [List.nil_append]; exact hkt) rfl rfl (by simp [Act.eval, Act.put] <;> rfl) rfl (fun ad had j u hu => by cases had; first | exact box_of _ wa x _ rfl _ _ (by first | rfl | simp) j u hu | exact (hga.cell_far _ (by first | (simp [Addr.add_mid]; done) | (simp [Addr.add_mid]; omega)) (by first | (simp [Addr.add_mid, Value.ownBlock]; done) | (simp [Addr.add_mid, Value.ownBlock]; omega))).trans (box_of _ (W3.alloc (.cells #[] 65)) x _ rfl _ _ (by first | rfl | simp) j u hu) | exact (hga.cell_far _ (by first | (simp [Addr.add_mid]; done) | (simp [Addr.add_mid]; omega)) (by first | (simp [Addr.add_mid, Value.ownBlock]; done) | (simp [Addr.add_mid, Value.ownBlock]; omega))).trans ((World.cell?_alloc_lt _ _ _ (by simp [Addr.add_mid])).trans (box_of _ W3 x _ rfl _ _ (by first | rfl | simp) j u hu))) (fun h => by cases h) (by first | exact hoa | exact World.ownsRow.alloc hoa _) (by first | omega | (simp; done) | (simp; omega)) (by omega) ?_; intro Ab cb wb hob hbb hgb; have KB : Below W3.heap.size W3 wb := (show Below W3.heap.size W3 _ from by repeat (first | assumption | exact Below.refl _ _ | refine Below.drew ?_ | refine Below.alloc ?_ (by first | omega | (simp; done) | (simp; omega)) _)).trans hbb; have hKB : W3.heap.size ≤ wb.heap.size := KB.size)
                    | (refine step_app rfl (.tmp 87) (.tmp 90) 28 65 rfl Try.underlying28 Consumer.infoE rfl (by omega) (by omega) Consumer.enc_len Consumer.enc_one W3.heap.size _ cb ([] ++ O.take p ++ [x]) (O.drop p) (some ⟨b0, o0 + p * 3, none⟩) (k - p) (cap - p) (p + 1) (p + 1 + (k - p)) (by rw [List.length_append, List.nil_append, hkt]; rfl) (by omega) rfl (by simp [Act.eval, Act.put]) hkd (fun ad had j u hu => by cases had; rw [Addr.add_mid]; exact ((show Below W3.heap.size W3 _ from by repeat (first | assumption | exact Below.refl _ _ | refine Below.drew ?_ | refine Below.alloc ?_ (by first | omega | (simp; done) | (simp; omega)) _)).cell hbw).trans (hcd j u hu)) (fun h => by cases h) (by first | exact hob | exact World.ownsRow.alloc hob _) (by first | omega | (simp; done) | (simp; omega)) (by omega) ?_; intro Ac cc wc hoc hbc hgc; have KC : Below W3.heap.size W3 wc := (show Below W3.heap.size W3 _ from by repeat (first | assumption | exact Below.refl _ _ | refine Below.drew ?_ | refine Below.alloc ?_ (by first | omega | (simp; done) | (simp; omega)) _)).trans hbc))
                all_goals
                  rw [HKE.out] at hoc
                  go_wp2_with fail
                  rw [← HP.out] at hoc
                  obtain ⟨q2, hq2⟩ := own_some hoc (by rw [ordL_len, List.length_take]; omega)
                  subst hq2
                  have hz : p + 1 + (k - p) = k + 1 := by omega
                  rw [hz] at hoc
                  go_roundw
                  case rel => exact ⟨k + 1, q2, cc, by omega, by go_num, by first | rfl | exact sl_eq (by omega), Own.mono_ hoc (by have := hbel.size; have := B3.size; omega), below_step (below_step hbel B3 (Nat.le_refl _)) KC (Nat.le_refl _)⟩
                  case measure => simp [intOf] <;> omega
              · obtain rfl : k = p := by omega
                have hn0 : ¬ k = 0 := hp0
                rcases A with _ | ad
                · exact absurd rfl hA
                · have hn0' := hn0
                  have hk0 : (0 : Int) ≤ (k : Int) := by omega
                  obtain ⟨b, o, hA2, hbw, hct, _⟩ := rd_part Consumer.enc_len hr (by intro h; rw [h] at hMl; simp at hMl; omega) k
                  cases hA2
                  by_cases hck : cap = k
                  · have hck2 := hck.symm; clear hck
                    subst hck2
                    have hkt : (O.take k).length = k := by rw [List.length_take]; omega
                    have hdk : O.drop k = [] := by rw [List.drop_eq_nil_iff]; omega
                    have hke : ([] ++ O.take k ++ [x]) ++ ([] : List Consumer) = insL O k x := by unfold insL; rw [hdk]; simp
                    clear hdk
                    have HKE := hide hke; clear hke
                    go_wp2_with fail
                    have K0 : Below W3.heap.size W3 W3 := Below.refl _ _
                    have HF := hide (fun (X : World) (hX : Below W3.heap.size W3 X) => show X.cell? ⟨bl, ol + k * 3, none⟩ = some (.string x.name) ∧ X.cell? ⟨bl, ol + k * 3 + 1, none⟩ = some (.int .i64 x.watts) ∧ X.cell? ⟨bl, ol + k * 3 + 2, none⟩ = some (.int .i64 x.rank) from ⟨(hX.cell hS).trans s0, (hX.cell hS).trans s1, (hX.cell hS).trans s2⟩)
                    go_region_held_law (fun w' => w'.cell? ⟨bl, ol + k * 3, none⟩ = some (.string x.name) ∧ w'.cell? ⟨bl, ol + k * 3 + 1, none⟩ = some (.int .i64 x.watts) ∧ w'.cell? ⟨bl, ol + k * 3 + 2, none⟩ = some (.int .i64 x.rank)) (exact HF.out _ (by repeat (first | assumption | exact Below.refl _ _ | refine Below.drew ?_ | refine Below.alloc ?_ (by first | omega | (simp; done) | (simp; omega)) _)))
                      (first
                        | (refine step_app rfl (.tmp 77) (.tmp 80) 28 65 rfl Try.underlying28 Consumer.infoE rfl (by omega) (by omega) Consumer.enc_len Consumer.enc_one W3.heap.size _ 0 [] (O.take k) (some ⟨b, o, none⟩) k k 0 k rfl (by omega) rfl (by simp [Act.eval, Act.put]) hkt (fun ad had j u hu => by cases had; rw [Addr.add_mid]; exact ((show Below W3.heap.size W3 _ from by repeat (first | assumption | exact Below.refl _ _ | refine Below.drew ?_ | refine Below.alloc ?_ (by first | omega | (simp; done) | (simp; omega)) _)).cell hbw).trans (hct j u hu)) (fun h => by cases h) (by first | exact own_none (by first | rfl | simp) (by first | omega | simp) | exact World.ownsRow.alloc (own_none (by first | rfl | simp) (by first | omega | simp)) _) (by first | omega | (simp; done) | (simp; omega)) (by omega) ?_; intro Aa ca wa hoa hba hga; have KA : Below W3.heap.size W3 wa := (show Below W3.heap.size W3 _ from by repeat (first | assumption | exact Below.refl _ _ | refine Below.drew ?_ | refine Below.alloc ?_ (by first | omega | (simp; done) | (simp; omega)) _)).trans hba; have hKA : W3.heap.size ≤ wa.heap.size := KA.size)
                        | (refine step_app rfl (.tmp 81) (.tmp 86) 28 65 rfl Try.underlying28 Consumer.infoE rfl (by omega) (by omega) Consumer.enc_len Consumer.enc_one W3.heap.size _ ca ([] ++ O.take k) [x] (some ⟨_, 0, none⟩) 1 1 (k) (k + 1) (by rw [List.nil_append]; exact hkt) rfl rfl (by simp [Act.eval, Act.put] <;> rfl) rfl (fun ad had j u hu => by cases had; first | exact box_of _ wa x _ rfl _ _ (by first | rfl | simp) j u hu | exact (hga.cell_far _ (by first | (simp [Addr.add_mid]; done) | (simp [Addr.add_mid]; omega)) (by first | (simp [Addr.add_mid, Value.ownBlock]; done) | (simp [Addr.add_mid, Value.ownBlock]; omega))).trans (box_of _ (W3.alloc (.cells #[] 65)) x _ rfl _ _ (by first | rfl | simp) j u hu) | exact (hga.cell_far _ (by first | (simp [Addr.add_mid]; done) | (simp [Addr.add_mid]; omega)) (by first | (simp [Addr.add_mid, Value.ownBlock]; done) | (simp [Addr.add_mid, Value.ownBlock]; omega))).trans ((World.cell?_alloc_lt _ _ _ (by simp [Addr.add_mid])).trans (box_of _ W3 x _ rfl _ _ (by first | rfl | simp) j u hu))) (fun h => by cases h) (by first | exact hoa | exact World.ownsRow.alloc hoa _) (by first | omega | (simp; done) | (simp; omega)) (by omega) ?_; intro Ab cb wb hob hbb hgb; have KB : Below W3.heap.size W3 wb := (show Below W3.heap.size W3 _ from by repeat (first | assumption | exact Below.refl _ _ | refine Below.drew ?_ | refine Below.alloc ?_ (by first | omega | (simp; done) | (simp; omega)) _)).trans hbb; have hKB : W3.heap.size ≤ wb.heap.size := KB.size)
                        | (refine step_app rfl (.tmp 87) (.tmp 90) 28 65 rfl Try.underlying28 Consumer.infoE rfl (by omega) (by omega) Consumer.enc_len Consumer.enc_one W3.heap.size _ cb ([] ++ O.take k ++ [x]) (([] : List Consumer)) (some ⟨b, o, none⟩) 0 0 (k + 1) (k + 1 + 0) (by rw [List.length_append, List.nil_append, hkt]; rfl) (by omega) rfl (by simp [Act.eval, Act.put]) rfl (fun ad had j u hu => by simp at hu) (fun h => by cases h) (by first | exact hob | exact World.ownsRow.alloc hob _) (by first | omega | (simp; done) | (simp; omega)) (by omega) ?_; intro Ac cc wc hoc hbc hgc; have KC : Below W3.heap.size W3 wc := (show Below W3.heap.size W3 _ from by repeat (first | assumption | exact Below.refl _ _ | refine Below.drew ?_ | refine Below.alloc ?_ (by first | omega | (simp; done) | (simp; omega)) _)).trans hbc))
                    all_goals
                      rw [HKE.out] at hoc
                      go_wp2_with fail
                      rw [← HP.out] at hoc
                      obtain ⟨q2, hq2⟩ := own_some hoc (by rw [ordL_len, List.length_take]; omega)
                      subst hq2
                      have hz : k + 1 + 0 = k + 1 := by omega
                      rw [hz] at hoc
                      go_roundw
                      case rel => exact ⟨k + 1, q2, cc, by omega, by go_num, by first | rfl | exact sl_eq (by omega), Own.mono_ hoc (by have := hbel.size; have := B3.size; omega), below_step (below_step hbel B3 (Nat.le_refl _)) KC (Nat.le_refl _)⟩
                      case measure => simp [intOf] <;> omega
                  · have hck3 : ¬ k = cap := fun h => hck h.symm
                    have hkc : k ≤ cap := by omega
                    have hkt : (O.take k).length = k := by rw [List.length_take]; omega
                    have hdk : O.drop k = [] := by rw [List.drop_eq_nil_iff]; omega
                    have hke : ([] ++ O.take k ++ [x]) ++ ([] : List Consumer) = insL O k x := by unfold insL; rw [hdk]; simp
                    clear hdk
                    have HKE := hide hke; clear hke
                    go_wp2_with fail
                    have K0 : Below W3.heap.size W3 W3 := Below.refl _ _
                    have HF := hide (fun (X : World) (hX : Below W3.heap.size W3 X) => show X.cell? ⟨bl, ol + k * 3, none⟩ = some (.string x.name) ∧ X.cell? ⟨bl, ol + k * 3 + 1, none⟩ = some (.int .i64 x.watts) ∧ X.cell? ⟨bl, ol + k * 3 + 2, none⟩ = some (.int .i64 x.rank) from ⟨(hX.cell hS).trans s0, (hX.cell hS).trans s1, (hX.cell hS).trans s2⟩)
                    go_region_held_law (fun w' => w'.cell? ⟨bl, ol + k * 3, none⟩ = some (.string x.name) ∧ w'.cell? ⟨bl, ol + k * 3 + 1, none⟩ = some (.int .i64 x.watts) ∧ w'.cell? ⟨bl, ol + k * 3 + 2, none⟩ = some (.int .i64 x.rank)) (exact HF.out _ (by repeat (first | assumption | exact Below.refl _ _ | refine Below.drew ?_ | refine Below.alloc ?_ (by first | omega | (simp; done) | (simp; omega)) _)))
                      (first
                        | (refine step_app rfl (.tmp 77) (.tmp 80) 28 65 rfl Try.underlying28 Consumer.infoE rfl (by omega) (by omega) Consumer.enc_len Consumer.enc_one W3.heap.size _ 0 [] (O.take k) (some ⟨b, o, none⟩) k cap 0 k rfl (by omega) rfl (by simp [Act.eval, Act.put]) hkt (fun ad had j u hu => by cases had; rw [Addr.add_mid]; exact ((show Below W3.heap.size W3 _ from by repeat (first | assumption | exact Below.refl _ _ | refine Below.drew ?_ | refine Below.alloc ?_ (by first | omega | (simp; done) | (simp; omega)) _)).cell hbw).trans (hct j u hu)) (fun h => by cases h) (by first | exact own_none (by first | rfl | simp) (by first | omega | simp) | exact World.ownsRow.alloc (own_none (by first | rfl | simp) (by first | omega | simp)) _) (by first | omega | (simp; done) | (simp; omega)) (by omega) ?_; intro Aa ca wa hoa hba hga; have KA : Below W3.heap.size W3 wa := (show Below W3.heap.size W3 _ from by repeat (first | assumption | exact Below.refl _ _ | refine Below.drew ?_ | refine Below.alloc ?_ (by first | omega | (simp; done) | (simp; omega)) _)).trans hba; have hKA : W3.heap.size ≤ wa.heap.size := KA.size)
                        | (refine step_app rfl (.tmp 81) (.tmp 86) 28 65 rfl Try.underlying28 Consumer.infoE rfl (by omega) (by omega) Consumer.enc_len Consumer.enc_one W3.heap.size _ ca ([] ++ O.take k) [x] (some ⟨_, 0, none⟩) 1 1 (k) (k + 1) (by rw [List.nil_append]; exact hkt) rfl rfl (by simp [Act.eval, Act.put] <;> rfl) rfl (fun ad had j u hu => by cases had; first | exact box_of _ wa x _ rfl _ _ (by first | rfl | simp) j u hu | exact (hga.cell_far _ (by first | (simp [Addr.add_mid]; done) | (simp [Addr.add_mid]; omega)) (by first | (simp [Addr.add_mid, Value.ownBlock]; done) | (simp [Addr.add_mid, Value.ownBlock]; omega))).trans (box_of _ (W3.alloc (.cells #[] 65)) x _ rfl _ _ (by first | rfl | simp) j u hu) | exact (hga.cell_far _ (by first | (simp [Addr.add_mid]; done) | (simp [Addr.add_mid]; omega)) (by first | (simp [Addr.add_mid, Value.ownBlock]; done) | (simp [Addr.add_mid, Value.ownBlock]; omega))).trans ((World.cell?_alloc_lt _ _ _ (by simp [Addr.add_mid])).trans (box_of _ W3 x _ rfl _ _ (by first | rfl | simp) j u hu))) (fun h => by cases h) (by first | exact hoa | exact World.ownsRow.alloc hoa _) (by first | omega | (simp; done) | (simp; omega)) (by omega) ?_; intro Ab cb wb hob hbb hgb; have KB : Below W3.heap.size W3 wb := (show Below W3.heap.size W3 _ from by repeat (first | assumption | exact Below.refl _ _ | refine Below.drew ?_ | refine Below.alloc ?_ (by first | omega | (simp; done) | (simp; omega)) _)).trans hbb; have hKB : W3.heap.size ≤ wb.heap.size := KB.size)
                        | (refine step_app rfl (.tmp 87) (.tmp 90) 28 65 rfl Try.underlying28 Consumer.infoE rfl (by omega) (by omega) Consumer.enc_len Consumer.enc_one W3.heap.size _ cb ([] ++ O.take k ++ [x]) (([] : List Consumer)) (some ⟨b, o + k * 3, none⟩) 0 (cap - k) (k + 1) (k + 1 + 0) (by rw [List.length_append, List.nil_append, hkt]; rfl) (by omega) rfl (by simp [Act.eval, Act.put]) rfl (fun ad had j u hu => by simp at hu) (fun h => by cases h) (by first | exact hob | exact World.ownsRow.alloc hob _) (by first | omega | (simp; done) | (simp; omega)) (by omega) ?_; intro Ac cc wc hoc hbc hgc; have KC : Below W3.heap.size W3 wc := (show Below W3.heap.size W3 _ from by repeat (first | assumption | exact Below.refl _ _ | refine Below.drew ?_ | refine Below.alloc ?_ (by first | omega | (simp; done) | (simp; omega)) _)).trans hbc))
                    all_goals
                      rw [HKE.out] at hoc
                      go_wp2_with fail
                      rw [← HP.out] at hoc
                      obtain ⟨q2, hq2⟩ := own_some hoc (by rw [ordL_len, List.length_take]; omega)
                      subst hq2
                      have hz : k + 1 + 0 = k + 1 := by omega
                      rw [hz] at hoc
                      go_roundw
                      case rel => exact ⟨k + 1, q2, cc, by omega, by go_num, by first | rfl | exact sl_eq (by omega), Own.mono_ hoc (by have := hbel.size; have := B3.size; omega), below_step (below_step hbel B3 (Nat.le_refl _)) KC (Nat.le_refl _)⟩
                      case measure => simp [intOf] <;> omega
    · obtain rfl : k = L.length := by omega
      rw [List.take_length] at ho
      have B4 := below_step B1 hbel (Nat.le_refl _)
      have hos4 := Own.below hos1 hbel
      go_wp2_with (go_at_call 47; refine (l18Load_is HND.out _ _ _ H.out (r0.later hbel)).mono ?_; rintro e w5 ⟨rfl, hb5⟩)
      have B5 := below_step B4 hb5 (Nat.le_refl _)
      have hos5 := Own.below hos4 hb5
      have hoo5 := Own.mono_ (Own.below ho hb5) B1.size
      have hgo : w.heap.size ≠ q := by have := own_geq ho; have := own_ltw hos1; omega
      clear hos4 ho hos1
      obtain ⟨go, hgoq⟩ : ∃ go : Nat, go = q := ⟨_, rfl⟩
      rw [← hgoq] at hoo5 hgo ⊢
      clear hgoq
      go_loopw [11, 6, 10] (fun i m s wr => ∃ (k q cap' : Nat) (t : Int), k ≤ L.length ∧ i = .int .i64 k ∧ m = .slice (some ⟨q, 0, none⟩) (namesK (ordF L) k).length cap' ∧ s = .int .i64 t ∧ Hid (needK (ordF L) nd k = t) ∧ Hid (∀ j, j < k → supply < needK (ordF L) nd j) ∧ Own encS 1 9 w.heap.size wr (.slice (some ⟨q, 0, none⟩) (namesK (ordF L) k).length cap') (namesK (ordF L) k) ∧ Own Consumer.enc 3 65 w.heap.size wr (.slice (some ⟨go, 0, none⟩) L.length cap) (ordF L) ∧ q ≠ go ∧ Below w.heap.size w wr) (fun i _ _ _ => L.length - (intOf i).toNat)
      case atStart => exact ⟨0, _, _, nd, Nat.zero_le _, rfl, rfl, rfl, hide (by simp [needK]), hide (fun j hj => absurd hj (Nat.not_lt_zero j)), hos5, hoo5, hgo, B5⟩
      case round =>
        clear hos5 hoo5 B5 B4 hbel hb5
        obtain ⟨k, q, cap', t, hk, rfl, rfl, rfl, hnt, hlow, hos, hoo, hqg, hbel⟩ := hrel
        have HNL := hide (names_len (O := ordF L) (k := k) (by rw [ordF_len]; exact hk))
        obtain ⟨t1, t2⟩ := need_bd (need := nd) HWB.out k (by rw [ordF_len]; exact hk)
        rw [hnt.out] at t1 t2
        have hend : (k < L.length → t ≤ supply) → offV L supply = namesK (ordF L) k := fun h => by
          rw [HV.out, HND.out, offK_is (by rw [ordF_len]; exact hk) hlow.out (fun h2 => by rw [ordF_len] at h2; rw [hnt.out]; exact h h2)]
        have HEND := hide hend; clear hend
        by_cases hlt : k < L.length
        · have hki : (k : Int) < (L.length : Int) := by omega
          by_cases hle : t ≤ supply
          · have HF := hide (HEND.out (fun _ => hle))
            have hnlt : ¬ supply < t := by omega
            go_wp2_with fail
            go_ret2
            rw [HF.out, HB.out]
            exact ⟨_, cap', rfl, hos, hbel⟩
          · have hnlt : supply < t := by omega
            obtain ⟨c, hc⟩ : ∃ c, (ordF L)[k]? = some c := ⟨_, List.getElem?_eq_getElem (by rw [ordF_len]; omega)⟩
            obtain ⟨⟨c1, c2⟩, _⟩ := cons_in H.out (ord_in (List.mem_of_getElem? hc))
            have hoL : Own Consumer.enc 3 65 w.heap.size wr (.slice (some ⟨go, 0, none⟩) (ordF L).length cap) (ordF L) := by rw [ordF_len]; exact hoo
            have y0 := own_cell hoL (flat_get Consumer.enc_len _ k c hc 0 _ rfl)
            have y1 := own_cell hoL (flat_get Consumer.enc_len _ k c hc 1 _ rfl)
            rw [Nat.add_zero] at y0
            have HS := hide (names_step hc)
            have HNS := hide (need_step (need := nd) hc)
            clear hc hoL
            have HLW := hide (show ∀ j, j < k + 1 → supply < needK (ordF L) nd j from fun j hj => by
              rcases Nat.lt_or_eq_of_le (Nat.lt_succ_iff.1 hj) with h3 | h3
              · exact hlow.out j h3
              · subst h3; rw [hnt.out]; omega)
            have hws := hbel.size
            have hN9 : (namesK (ordF L) k).length ≤ 8 := by rw [HNL.out]; omega
            clear HNL
            generalize namesK (ordF L) k = N at *
            go_wp2_with (at_builtin; refine wpList_push2 _ rfl (.tmp 105) (.tmp 111) 52 9 rfl Try.underlying52 infoS rfl (by omega) (by omega) encS_len encS_one w.heap.size _ cap' N c.name _ rfl rfl _ rfl rfl hos hws (by omega) ?_; intro q5 cap5 w5 ho5 hb5 hg5 hq5; have y1 := moved_cell (g := q) hg5 (Ne.symm hqg) ((World.cell?_alloc_lt _ _ _ (World.block_lt_of_cell? _ _ y1)).trans y1))
            go_roundw
            case rel => exact ⟨k + 1, q5, cap5, _, by omega, by go_num, sl_eq (by rw [HS.out]; simp), rfl, hide (by rw [HNS.out, hnt.out]), HLW, by rw [HS.out, List.length_append]; exact ho5, push_keep hoo hg5 (Ne.symm hqg), Ne.symm (push_ne hoo hq5 (Ne.symm hqg)), hbel.trans hb5⟩
            case measure => simp [intOf] <;> omega
        · obtain rfl : k = L.length := by omega
          have HF := hide (HEND.out (fun h => absurd h hlt))
          go_wp2_with fail
          go_ret2
          rw [HF.out, HB.out]
          exact ⟨_, cap', rfl, hos, hbel⟩
end Go.Proofs.Ytafefnpmgpmjpaa
