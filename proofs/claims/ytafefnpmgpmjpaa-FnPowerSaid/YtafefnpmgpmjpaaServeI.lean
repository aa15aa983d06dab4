/- ServedWith, SwitchOff: the program's functions. -/
import Derived.Test.YtafefnpmgpmjpaaServeS
namespace Go.Proofs.Ytafefnpmgpmjpaa
open Go Go.RowKit
set_option linter.unusedVariables false
set_option linter.unusedSimpArgs false
theorem stable_all (cf : Consumer → Consumer → Int) (gt : Consumer → Consumer → Bool) (hgt : (fun c x => ltOf cf x c) = gt) (f : Nat) (Ac : Option Addr) (cap n lo : Nat) (L : List Consumer) (w : World) (hn : L.length = n) (hf : ∀ args w, (callFunc f args).run Try.prog w = .ok (.enter f args) w)
    (hcmp : ∀ (x y : Consumer) (W : World), Calls Try.prog f #[.agg (Consumer.enc x).toArray, .agg (Consumer.enc y).toArray] W fun e w' => e = .returned (.int .i64 (cf x y)) ∧ ∃ q os', w' = Sort.grow (W.drewN q) os')
    (ho : Own Consumer.enc 3 65 lo w (.slice Ac n cap) L) (h8 : n ≤ 8) (hlo : lo ≤ w.heap.size) :
    Calls Try.prog 70 #[.slice Ac n cap, .func (.func f) #[] #[]] w fun e w' => e = .returned (.tuple #[]) ∧ Own Consumer.enc 3 65 lo w' (.slice Ac n cap) (ordL gt L) ∧ Below lo w w' := by
  subst hgt
  by_cases h0 : 0 < L.length
  · obtain ⟨g, rfl⟩ := own_some ho h0
    exact (stableK cf f g cap n lo L w hn hf hcmp ho h8).mono fun e w' ⟨h1, h2, h3⟩ => ⟨h1, h2, below_moved h3 (own_geq ho) hlo⟩
  · have hL : L = [] := List.eq_nil_of_length_eq_zero (by omega)
    subst hL
    subst hn
    exact (stableK_none f Ac cap w).mono fun e w' ⟨h1, h2⟩ => ⟨h1, by rw [← h2]; exact ho, by rw [← h2]; exact Below.refl _ _⟩
set_option maxRecDepth 100000 in
set_option maxHeartbeats 4000000 in
theorem ServedWith_any (L : List Consumer) (supply : Int) (A : Option Addr) (cap : Nat) (w : World) (hr : Rd Consumer.enc 3 w.heap.size w A L) (hok : ∀ c ∈ L, c.Ok) (hl : L.length ≤ maxLen) (hcap : L.length ≤ cap) :
    Calls Try.prog 30 #[.slice A L.length cap, .int .i64 supply] w (Gives (servV L supply).length (fun v => .tuple #[v, .int .i64 (servT L supply), .bool (servB L supply)]) (fun w' v => Own encS 1 9 w.heap.size w' v (servV L supply)) w) := by
  have hno : servB L supply = false → servV L supply = [] ∧ servT L supply = 0 := fun h => by simp [servV, servT, h]
  cases h : consB L
  · have HB := hide (show servB L supply = false by simp [servB, h])
    have HN := hide (hno HB.out); clear hno
    go_enter Try.func30, Try.ntmps30
    go_wp2_with (go_at_call 42; refine (AreConsumers_is h _ _ _ hr hok hl hcap).mono ?_; rintro e w1 ⟨rfl, hb1⟩)
    go_ret3
    rw [HN.out.1, HN.out.2]; rw [HB.out]; exact ⟨none, 0, rfl, own_nil _ _ _, hb1⟩
  have H := hide h; clear h
  cases hs : inB supply 0 2000000
  · have HB := hide (show servB L supply = false by simp [servB, hs])
    have HN := hide (hno HB.out); clear hno
    go_enter Try.func30, Try.ntmps30
    go_wp2_with (first | (go_at_call 42; refine (AreConsumers_is H.out _ _ _ hr hok hl hcap).mono ?_; rintro e w1 ⟨rfl, hb1⟩) | (go_at_call 68; refine (isSupply_is hs _).mono ?_; rintro e w' ⟨rfl, rfl⟩))
    go_ret3
    rw [HN.out.1, HN.out.2]; rw [HB.out]; exact ⟨none, 0, rfl, own_nil _ _ _, hb1⟩
  clear hno
  have HB := hide (show servB L supply = true by simp [servB, H.out, hs])
  obtain ⟨s0, s9⟩ := inB_iff.1 hs
  have hl8 := consB_len H.out
  have HV := hide (show servV L supply = (servK (ordR L) supply L.length).1 by rw [servV, if_pos HB.out, ordR_len])
  have HT := hide (show servT L supply = (servK (ordR L) supply L.length).2 by rw [servT, if_pos HB.out, ordR_len])
  go_enter Try.func30, Try.ntmps30
  go_wp2_with (first | (go_at_call 42; refine (AreConsumers_is H.out _ _ _ hr hok hl hcap).mono ?_; rintro e w1 ⟨rfl, hb1⟩) | (go_at_call 68; refine (isSupply_is hs _).mono ?_; rintro e w' ⟨rfl, rfl⟩) | (go_at_call 69; refine (Consumer.Clone_any L _ _ _ (hr.later hb1) (by omega)).mono ?_; rintro e w2 ⟨Ac, cc, rfl, hoc, hb2⟩; have B2 := below_step hb1 hb2 (Nat.le_refl _)) | (go_at_call 70; refine (stable_all rankC gtR gtR_is 71 Ac cc L.length w1.heap.size L _ rfl (fun _ _ => by kernel_rfl) serve1_any hoc hl8 hb2.size).mono ?_; rintro e w3 ⟨rfl, hor, hb3⟩))
  have B3 := B2.trans (hb3.mono hb1.size)
  have hw3 : w1.heap.size ≤ w3.heap.size := Nat.le_trans hb2.size hb3.size
  have hbs : Below w3.heap.size w3 (w3.alloc (.cells #[] 9)) := (Below.refl _ _).alloc (Nat.le_refl _) _
  have hos0 : Own encS 1 9 w3.heap.size (w3.alloc (.cells #[] 9)) (.slice (some ⟨w3.heap.size, 0, none⟩) 0 0) [] := own_empty (Nat.le_refl _)
  have hor0 := Own.below hor hbs
  clear hoc
  go_loopw [26, 8, 1] (fun i m s wr => ∃ (k q cap' : Nat) (N : List ByteArray) (t : Int), k ≤ L.length ∧ i = .int .i64 k ∧ m = .slice (some ⟨q, 0, none⟩) N.length cap' ∧ s = .int .i64 t ∧ Hid (servK (ordR L) supply k = (N, t)) ∧ 0 ≤ t ∧ t ≤ 2000000 ∧ N.length ≤ k ∧ Own encS 1 9 w3.heap.size wr (.slice (some ⟨q, 0, none⟩) N.length cap') N ∧ Own Consumer.enc 3 65 w1.heap.size wr (.slice Ac L.length cc) (ordR L) ∧ Below w3.heap.size w3 wr) (fun i _ _ _ => L.length - (intOf i).toNat)
  case atStart => exact ⟨0, _, _, [], supply, Nat.zero_le _, rfl, rfl, rfl, hide rfl, s0, s9, Nat.le_refl _, hos0, hor0, hbs⟩
  case round =>
    clear hos0 hor0 hbs
    obtain ⟨k, q, cap', N, t, hk, rfl, rfl, rfl, hsv, t0, t9, hnl, hos, hoo, hbel⟩ := hrel
    by_cases hlt : k < L.length
    · have hki : (k : Int) < (L.length : Int) := by omega
      obtain ⟨c, hc⟩ : ∃ c, (ordR L)[k]? = some c := ⟨_, List.getElem?_eq_getElem (by rw [ordR_len]; omega)⟩
      obtain ⟨⟨c1, c2⟩, _⟩ := cons_in H.out (ord_in (List.mem_of_getElem? hc))
      obtain ⟨gg, hgA⟩ := own_some hoo (by rw [ordR_len]; omega)
      subst hgA
      have hoL : Own Consumer.enc 3 65 w1.heap.size wr (.slice (some ⟨gg, 0, none⟩) (ordR L).length cc) (ordR L) := by rw [ordR_len]; exact hoo
      have y0 := own_cell hoL (flat_get Consumer.enc_len _ k c hc 0 _ rfl)
      have y1 := own_cell hoL (flat_get Consumer.enc_len _ k c hc 1 _ rfl)
      have y2 := own_cell hoL (flat_get Consumer.enc_len _ k c hc 2 _ rfl)
      rw [Nat.add_zero] at y0
      have HC := hide hc; clear hc hoL
      have hws := hbel.size
      have hos' := World.ownsRow.drew (World.ownsRow.alloc hos (.cells #[.string c.name, .int .i64 c.watts, .int .i64 c.rank] 65))
      have hoo' := World.ownsRow.alloc hoo (.cells #[.string c.name, .int .i64 c.watts, .int .i64 c.rank] 65)
      have hq := own_ltw hos
      have z0 := cell_new wr #[.string c.name, .int .i64 c.watts, .int .i64 c.rank] 65 wr.heap.size 0 _ rfl rfl
      have z1 := cell_new wr #[.string c.name, .int .i64 c.watts, .int .i64 c.rank] 65 wr.heap.size 1 _ rfl rfl
      by_cases hle : c.watts ≤ t
      · have HS := hide (serv_yes HC.out hsv.out hle)
        have HOW := hide (fun (w5 : World) (hb : Below w3.heap.size (wr.alloc (.cells #[.string c.name, .int .i64 c.watts, .int .i64 c.rank] 65)).drew w5) => Own.below hor ((hbel.alloc hws (.cells #[.string c.name, .int .i64 c.watts, .int .i64 c.rank] 65)).trans (((Below.refl _ _).drew).trans hb)))
        go_wp2_with fail
        go_region_held_law (fun w' => w'.cell? ⟨wr.heap.size, 0, none⟩ = some (.string c.name) ∧ w'.cell? ⟨wr.heap.size, 1, none⟩ = some (.int .i64 c.watts)) (first | exact ⟨moved_cell (g := q) hg5 (by omega) ((World.cell?_alloc_lt _ _ _ (by show _ < _; simp [World.size_alloc] <;> omega)).trans z0), moved_cell (g := q) hg5 (by omega) ((World.cell?_alloc_lt _ _ _ (by show _ < _; simp [World.size_alloc] <;> omega)).trans z1)⟩ | exact ⟨z0, z1⟩ | go_keep) ((refine step_push2 (w := (wr.alloc (.cells #[.string c.name, .int .i64 c.watts, .int .i64 c.rank] 65)).drew) rfl (.tmp 34) (.tmp 37) 52 9 rfl Try.underlying52 infoS rfl (by omega) (by omega) encS_len encS_one w3.heap.size _ cap' N c.name _ rfl rfl _ rfl (by first | rfl | simp | (show (World.alloc _ _).heap.size = _; simp)) hos' (by show w3.heap.size ≤ _; simp [World.drew, World.size_alloc]; omega) (by omega) ?_; intro q5 cap5 w5 ho5 hb5 hg5 hq5))
        go_wp2_with fail
        go_roundw
        case rel => exact ⟨k + 1, q5, cap5, _, _, by omega, by go_num, sl_eq (by simp), by first | rfl | (congr 1; rw [IntKind.wrap_i64]; omega), HS, by omega, by omega, by simp; omega, by rw [List.length_append]; exact ho5, HOW.out _ hb5, ((hbel.alloc hws _).drew).trans hb5⟩
        case measure => simp [intOf] <;> omega
      · have HS := hide (serv_no HC.out hsv.out hle)
        go_wp2_with fail
        go_roundw
        case rel => exact ⟨k + 1, q, cap', N, t, by omega, by go_num, rfl, rfl, HS, t0, t9, by omega, World.ownsRow.alloc hos _, hoo', hbel.alloc hws _⟩
        case measure => simp [intOf] <;> omega
    · obtain rfl : k = L.length := by omega
      go_wp2_with fail
      go_ret3
      rw [HV.out, HT.out, HB.out, hsv.out]
      exact ⟨_, cap', rfl, Own.mono_ hos (Nat.le_trans hb1.size hw3), B3.trans (hbel.mono (Nat.le_trans hb1.size hw3))⟩
end Go.Proofs.Ytafefnpmgpmjpaa
