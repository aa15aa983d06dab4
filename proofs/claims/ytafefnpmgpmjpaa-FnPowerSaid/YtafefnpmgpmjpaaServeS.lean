/- ServedWith: the reference's function; supplies. -/
import Derived.Test.YtafefnpmgpmjpaaServeO
import Derived.Test.YtafefnpmgpmjpaaStrs
namespace Go.Proofs.Ytafefnpmgpmjpaa
open Go Go.RowKit
set_option linter.unusedVariables false
set_option linter.unusedSimpArgs false
theorem l18Supply_is {n : Int} {b : Bool} (h : inB n 0 2000000 = b) (w : World) : Calls Try.prog 66 #[.int .i64 n] w fun e w' => e = .returned (.bool b) ∧ w = w' := by
  go_enter Try.func66, Try.ntmps66
  go_wp2_with (go_at_call 58; refine (l1In_is h _).mono ?_; rintro e w' ⟨rfl, rfl⟩)
  go_ret
  exact ⟨rfl, rfl⟩
theorem isSupply_is {n : Int} {b : Bool} (h : inB n 0 2000000 = b) (w : World) : Calls Try.prog 68 #[.int .i64 n] w fun e w' => e = .returned (.bool b) ∧ w = w' := by
  go_enter Try.func68, Try.ntmps68
  go_wp2_with (go_at_call 60; refine (within_is h _).mono ?_; rintro e w' ⟨rfl, rfl⟩)
  go_ret
  exact ⟨rfl, rfl⟩
set_option maxRecDepth 100000 in
set_option maxHeartbeats 4000000 in
theorem ServedWith_spec (L : List Consumer) (supply : Int) (A : Option Addr) (cap : Nat) (w : World) (hr : Rd Consumer.enc 3 w.heap.size w A L) (hok : ∀ c ∈ L, c.Ok) (hl : L.length ≤ maxLen) :
    Calls Try.prog 29 #[.slice A L.length cap, .int .i64 supply] w (Gives (servV L supply).length (fun v => .tuple #[v, .int .i64 (servT L supply), .bool (servB L supply)]) (fun w' v => Own encS 1 9 w.heap.size w' v (servV L supply)) w) := by
  have hba : Below w.heap.size w (w.alloc (.cells #[] 9)) := (Below.refl _ _).alloc (Nat.le_refl _) _
  have hown0 : Own encS 1 9 w.heap.size (w.alloc (.cells #[] 9)) (.slice (some ⟨w.heap.size, 0, none⟩) 0 0) [] := own_empty (Nat.le_refl _)
  have hno : servB L supply = false → servV L supply = [] ∧ servT L supply = 0 := fun h => by simp [servV, servT, h]
  cases h : consB L
  · have HB := hide (show servB L supply = false by simp [servB, h])
    have HN := hide (hno HB.out); clear hno
    go_enter Try.func29, Try.ntmps29
    go_wp2_with (go_at_call 44; refine (l18Good_is h _ _ _ (hr.later hba) hok hl).mono ?_; rintro e w1 ⟨rfl, hb1⟩)
    go_ret3
    rw [HN.out.1, HN.out.2]; rw [HB.out]; exact ⟨_, _, rfl, Own.below hown0 hb1, below_step hba hb1 (Nat.le_refl _)⟩
  have H := hide h; clear h
  cases hs : inB supply 0 2000000
  · have HB := hide (show servB L supply = false by simp [servB, hs])
    have HN := hide (hno HB.out); clear hno
    go_enter Try.func29, Try.ntmps29
    go_wp2_with (first | (go_at_call 44; refine (l18Good_is H.out _ _ _ (hr.later hba) hok hl).mono ?_; rintro e w1 ⟨rfl, hb1⟩) | (go_at_call 66; refine (l18Supply_is hs _).mono ?_; rintro e w' ⟨rfl, rfl⟩))
    go_ret3
    rw [HN.out.1, HN.out.2]; rw [HB.out]; exact ⟨_, _, rfl, Own.below hown0 hb1, below_step hba hb1 (Nat.le_refl _)⟩
  clear hno
  have HB := hide (show servB L supply = true by simp [servB, H.out, hs])
  obtain ⟨s0, s9⟩ := inB_iff.1 hs
  have hl8 := consB_len H.out
  have HV := hide (show servV L supply = (servK (ordR L) supply L.length).1 by rw [servV, if_pos HB.out, ordR_len])
  have HT := hide (show servT L supply = (servK (ordR L) supply L.length).2 by rw [servT, if_pos HB.out, ordR_len])
  go_enter Try.func29, Try.ntmps29
  go_wp2_with (first | (go_at_call 44; refine (l18Good_is H.out _ _ _ (hr.later hba) hok hl).mono ?_; rintro e w1 ⟨rfl, hb1⟩) | (go_at_call 66; refine (l18Supply_is hs _).mono ?_; rintro e w' ⟨rfl, rfl⟩) | (go_at_call 67; refine (l18Order_any L _ _ _ ((hr.later hba).later hb1) hl8).mono ?_; rintro e w2 ⟨go, cg, rfl, hoo, hb2⟩))
  have B1 := below_step hba hb1 (Nat.le_refl _)
  have B2 := below_step B1 hb2 (Nat.le_refl _)
  have hos0 := Own.below (Own.below hown0 hb1) hb2
  have hgo : w.heap.size ≠ go := by have := own_geq hoo; have := own_ltw (Own.below hown0 hb1); omega
  have hoo0 := Own.mono_ hoo B1.size
  clear hown0 hoo
  go_loopw [9, 7, 1] (fun i m s wr => ∃ (k q cap' : Nat) (N : List ByteArray) (t : Int), k ≤ L.length ∧ i = .int .i64 k ∧ m = .slice (some ⟨q, 0, none⟩) N.length cap' ∧ s = .int .i64 t ∧ Hid (servK (ordR L) supply k = (N, t)) ∧ 0 ≤ t ∧ t ≤ 2000000 ∧ N.length ≤ k ∧ Own encS 1 9 w.heap.size wr (.slice (some ⟨q, 0, none⟩) N.length cap') N ∧ Own Consumer.enc 3 65 w.heap.size wr (.slice (some ⟨go, 0, none⟩) L.length cg) (ordR L) ∧ q ≠ go ∧ Below w.heap.size w wr) (fun i _ _ _ => L.length - (intOf i).toNat)
  case atStart => exact ⟨0, _, _, [], supply, Nat.zero_le _, rfl, rfl, rfl, hide rfl, s0, s9, Nat.le_refl _, hos0, hoo0, hgo, B2⟩
  case round =>
    clear hos0 hoo0
    obtain ⟨k, q, cap', N, t, hk, rfl, rfl, rfl, hsv, t0, t9, hnl, hos, hoo, hqg, hbel⟩ := hrel
    by_cases hlt : k < L.length
    · have hki : (k : Int) < (L.length : Int) := by omega
      obtain ⟨c, hc⟩ : ∃ c, (ordR L)[k]? = some c := ⟨_, List.getElem?_eq_getElem (by rw [ordR_len]; omega)⟩
      obtain ⟨⟨c1, c2⟩, _⟩ := cons_in H.out (ord_in (List.mem_of_getElem? hc))
      have hoL : Own Consumer.enc 3 65 w.heap.size wr (.slice (some ⟨go, 0, none⟩) (ordR L).length cg) (ordR L) := by rw [ordR_len]; exact hoo
      have y0 := own_cell hoL (flat_get Consumer.enc_len _ k c hc 0 _ rfl)
      have y1 := own_cell hoL (flat_get Consumer.enc_len _ k c hc 1 _ rfl)
      rw [Nat.add_zero] at y0
      have HC := hide hc; clear hc hoL
      have hws := hbel.size
      by_cases hle : c.watts ≤ t
      · have HS := hide (serv_yes HC.out hsv.out hle)
        have hyp := fun (q5 cap5 : Nat) (w5 : World) (hb5 : Below w.heap.size wr w5) (hg5 : (wr.alloc (.cells #[.string c.name] 9)).grownBy w5 (Value.slice (some ⟨q, 0, none⟩) N.length cap').ownBlock) => (push_keep hoo hg5 (Ne.symm hqg))
        go_wp2_with (at_builtin; refine wpList_push2 _ rfl (.tmp 35) (.tmp 41) 52 9 rfl Try.underlying52 infoS rfl (by omega) (by omega) encS_len encS_one w.heap.size _ cap' N c.name _ rfl rfl _ rfl rfl hos hws (by omega) ?_; intro q5 cap5 w5 ho5 hb5 hg5 hq5; have y1 := moved_cell (g := q) hg5 (Ne.symm hqg) ((World.cell?_alloc_lt _ _ _ (World.block_lt_of_cell? _ _ y1)).trans y1))
        go_roundw
        case rel => exact ⟨k + 1, q5, cap5, _, _, by omega, by go_num, sl_eq (by simp), rfl, HS, by omega, by omega, by simp; omega, by rw [List.length_append]; exact ho5, push_keep hoo hg5 (Ne.symm hqg), Ne.symm (push_ne hoo hq5 (Ne.symm hqg)), hbel.trans hb5⟩
        case measure => simp [intOf] <;> omega
      · have HS := hide (serv_no HC.out hsv.out hle)
        go_wp2_with fail
        go_roundw
        case rel => exact ⟨k + 1, q, cap', N, t, by omega, by go_num, rfl, rfl, HS, t0, t9, by omega, hos, hoo, hqg, hbel⟩
        case measure => simp [intOf] <;> omega
    · obtain rfl : k = L.length := by omega
      go_wp2_with fail
      go_ret3
      rw [HV.out, HT.out, HB.out, hsv.out]
      exact ⟨_, cap', rfl, hos, hbel⟩
end Go.Proofs.Ytafefnpmgpmjpaa
