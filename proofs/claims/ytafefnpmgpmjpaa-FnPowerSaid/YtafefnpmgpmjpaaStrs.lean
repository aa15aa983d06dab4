/- Slices of texts: equal, marked, held; rows of a call's own. Marks are not negative and at most 10^8. -/
import Derived.Test.YtafefnpmgpmjpaaMark
import Derived.Test.YtafefnpmgpmjpaaDel
namespace Go.Proofs.Ytafefnpmgpmjpaa
open Go Go.RowKit
set_option linter.unusedVariables false
set_option linter.unusedSimpArgs false
def encS (s : ByteArray) : List Value := [.string s]
theorem encS_len (s : ByteArray) : (encS s).length = 1 := rfl
theorem encS_one (s : ByteArray) : ∀ u ∈ encS s, u.oneCell' = true := by intro u hu; simp [encS] at hu; subst hu; rfl
theorem infoS : (Try.prog.info? 9).map (fun i => (i.zero, i.size, i.bytes)) = some (some (.string ⟨#[]⟩), 1, 16) := by kernel_rfl
theorem rd_str {B : Nat} {w : World} {A : Option Addr} {L : List ByteArray} (h : Rd encS 1 B w A L) (hL : L ≠ []) : ∃ b o, A = some ⟨b, o, none⟩ ∧ b < B ∧ ∀ (k : Nat) (n : ByteArray), L[k]? = some n → w.cell? ⟨b, o + k, none⟩ = some (.string n) := by
  obtain ⟨b, o, hA, hb, hc⟩ := h.at_ hL
  exact ⟨b, o, hA, hb, fun k n hk => by simpa using hc k n hk 0 _ rfl⟩
def mkS (k0 : Int) (n : Nat) : List ByteArray := (List.range n).map fun i : Nat => mText (k0 + (i : Int))
theorem mkS_len (k0 : Int) (n : Nat) : (mkS k0 n).length = n := by simp [mkS]
theorem mkS_succ (k0 : Int) (n : Nat) : mkS k0 (n + 1) = mkS k0 n ++ [mText (k0 + (n : Int))] := by simp [mkS, List.range_succ]
theorem mkS_get {k0 : Int} {n k : Nat} (h : k < n) : (mkS k0 n)[k]? = some (mText (k0 + (k : Int))) := by simp [mkS, h]
theorem markS_step {k0 : Int} {L : List ByteArray} {k : Nat} (h : k < L.length) :
    ((mkS k0 k ++ L.drop k).flatMap encS).set k (.string (mText (k0 + (k : Int)))) = (mkS k0 (k + 1) ++ L.drop (k + 1)).flatMap encS := by
  rw [List.drop_eq_getElem_cons h, mkS_succ]
  simp only [List.flatMap_append, List.flatMap_cons, encS, List.append_assoc, List.cons_append, List.nil_append]
  exact set_mid _ _ _ _ _ (by rw [flat_length (enc := encS) (sz := 1) encS_len, mkS_len]; omega)
theorem markS_at {k0 : Int} {L : List ByteArray} {k : Nat} (h : k < L.length) : ((mkS k0 k ++ L.drop k).flatMap encS)[k]? = some (.string L[k]) := by
  have := flat_get (enc := encS) (sz := 1) encS_len (mkS k0 k ++ L.drop k) k L[k] (by rw [List.getElem?_append_right (by rw [mkS_len]; omega), mkS_len]; simp [h]) 0 _ rfl
  simpa using this
set_option maxHeartbeats 1000000 in
theorem markStringS_any (L : List ByteArray) (A : Option Addr) (cap lo : Nat) (T : TypeId) (k0 : Int) (w : World) (h0 : 0 ≤ k0) (h1 : k0 + L.length ≤ 99999999) (hown : Own encS 1 T lo w (.slice A L.length cap) L) :
    Calls Try.prog 33 #[.slice A L.length cap, .int .i64 k0] w fun e w' => e = .returned (.int .i64 (k0 + L.length)) ∧ Own encS 1 T lo w' (.slice A L.length cap) (mkS k0 L.length) ∧ w.grownBy w' (Value.ownBlock (.slice A L.length cap)) := by
  by_cases hL : L.length = 0
  · have : L = [] := List.eq_nil_of_length_eq_zero hL
    subst this
    go_enter Try.func33, Try.ntmps33
    go_wp2
    go_loop [5, 1] (fun i x => i = .int .i64 0 ∧ x = .int .i64 k0) (fun _ _ => 0)
    case atStart => exact ⟨rfl, rfl⟩
    case round =>
      obtain ⟨rfl, rfl⟩ := hrel
      go_wp2
      go_ret
      exact ⟨ret_int (by simp), hown, World.grownBy.refl w _⟩
  · obtain ⟨g, rfl, hlo, hg⟩ := own_form hown (by omega)
    go_enter Try.func33, Try.ntmps33
    go_wp2_with fail
    go_loopw [5, 1] (fun i x wr => ∃ k : Nat, k ≤ L.length ∧ i = .int .i64 k ∧ x = .int .i64 (k0 + k) ∧ wr.ownsRow lo T 1 (.slice (some ⟨g, 0, none⟩) L.length cap) L.length ((mkS k0 k ++ L.drop k).flatMap encS) ∧ w.grownBy wr (some g)) (fun i _ _ => L.length - (intOf i).toNat)
    case atStart => exact ⟨0, Nat.zero_le _, rfl, by simp, by unfold Own at hown; simpa [mkS] using hown, World.grownBy.refl w _⟩
    case round =>
      obtain ⟨k, hk, rfl, rfl, ho, hgr⟩ := hrel
      by_cases hlt : k < L.length
      · have c0 := own_cell ho (markS_at (k0 := k0) hlt)
        have f0 := ho.frozenAt k
        go_wp2_with (go_at_call 73; refine (markText_any _ _ (by omega) (by omega)).mono ?_; rintro e w1 ⟨rfl, hb1⟩; have q0 := below_cell hb1 c0; have r0 := below_frozen hb1 c0 f0)
        have oB := own_below ho hb1
        have o0 := own_set oB k (.string (mText (k0 + (k : Int))))
        rw [markS_step hlt] at o0
        go_roundw
        case rel => exact ⟨k + 1, by omega, by go_num, by go_num, o0, grown_set (grown_below hgr hb1)⟩
        case measure => simp [intOf]; omega
      · obtain rfl : k = L.length := by omega
        go_wp2_with fail
        go_ret
        refine ⟨rfl, ?_, hgr⟩
        rw [List.drop_length, List.append_nil] at ho
        unfold Own
        rwa [mkS_len]
set_option maxHeartbeats 1000000 in
theorem heldStringS_any (n : Nat) (A : Option Addr) (cap : Nat) (k0 : Int) (w : World) (h0 : 0 ≤ k0) (h1 : k0 + n ≤ 99999999) (hr : Rd encS 1 w.heap.size w A (mkS k0 n)) :
    Calls Try.prog 34 #[.slice A n cap, .int .i64 k0] w fun e w' => e = .returned (.int .i64 (k0 + n)) ∧ Below w.heap.size w w' := by
  rcases Nat.eq_zero_or_pos n with rfl | hn
  · go_enter Try.func34, Try.ntmps34
    go_wp2
    go_loop [5, 1] (fun i x => i = .int .i64 0 ∧ x = .int .i64 k0) (fun _ _ => 0)
    case atStart => exact ⟨rfl, rfl⟩
    case round =>
      obtain ⟨rfl, rfl⟩ := hrel
      go_wp2
      go_ret
      exact ⟨ret_int (by simp), Below.refl _ _⟩
  · obtain ⟨b, o, rfl, _, hc⟩ := rd_str hr (by intro h; have := mkS_len k0 n; rw [h] at this; simp at this; omega)
    clear hr
    go_enter Try.func34, Try.ntmps34
    go_wp2_with fail
    go_loopw [5, 1] (fun i x wr => ∃ k : Nat, k ≤ n ∧ i = .int .i64 k ∧ x = .int .i64 (k0 + k) ∧ Below w.heap.size w wr) (fun i _ _ => n - (intOf i).toNat)
    case atStart => exact ⟨0, Nat.zero_le _, rfl, by simp, Below.refl _ _⟩
    case round =>
      obtain ⟨k, hk, rfl, rfl, hbw⟩ := hrel
      by_cases hlt : k < n
      · have c0 := hc k _ (mkS_get hlt)
        replace c0 : wr.cell? ⟨b, o + k, none⟩ = some (.string (mText (k0 + (k : Int)))) := below_cell hbw c0
        have a0 := after_cell c0
        have hki : (k : Int) < (n : Int) := by omega
        go_wp2_with fail
        refine wp_region_after (by kernel_rfl) (by kernel_rfl) ?_
        repeat (first | go_big_quiet_step ((go_at_call 73; exact Calls.after (markText_any _ _ (by omega) (by omega)))) | quiet_step ((go_at_call 73; exact Calls.after (markText_any _ _ (by omega) (by omega)))))
        refine wpQuiet_nil ?_
        rintro _ ⟨⟨w1, hb1⟩, rfl⟩
        go_wp2_with fail
        go_roundw
        case rel => exact ⟨k + 1, by omega, by go_num, by go_num, below_step hbw hb1 (Nat.le_refl _)⟩
        case measure => simp [intOf]; omega
      · obtain rfl : k = n := by omega
        go_wp2_with fail
        go_ret
        exact ⟨rfl, hbw⟩
set_option maxHeartbeats 400000 in
theorem eqStringS_same (L : List ByteArray) (A B : Option Addr) (ca cb : Nat) (w : World) (hn : L.length ≤ 100000000) (ha : Rd encS 1 w.heap.size w A L) (hb : Rd encS 1 w.heap.size w B L) :
    Calls Try.prog 31 #[.slice A L.length ca, .slice B L.length cb] w fun e w' => e = .returned (.bool true) ∧ Below w.heap.size w w' := by
  by_cases hL : L = []
  · subst hL
    go_enter Try.func31, Try.ntmps31
    go_wp2
    go_loop [5] (fun i => i = .int .i64 0) (fun _ => 0)
    case atStart => rfl
    case round =>
      obtain rfl := hrel
      go_wp2
      go_ret
      exact ⟨rfl, Below.refl _ _⟩
  · obtain ⟨b1, o1, rfl, _, hc1⟩ := rd_str ha hL
    obtain ⟨b2, o2, rfl, _, hc2⟩ := rd_str hb hL
    clear ha hb
    go_enter Try.func31, Try.ntmps31
    go_wp2_with fail
    go_loopw [5] (fun i wr => ∃ k : Nat, k ≤ L.length ∧ i = .int .i64 k ∧ Below w.heap.size w wr) (fun i _ => L.length - (intOf i).toNat)
    case atStart => exact ⟨0, Nat.zero_le _, rfl, Below.refl _ _⟩
    case round =>
      obtain ⟨k, hk, rfl, hbw⟩ := hrel
      by_cases hlt : k < L.length
      · have c1 := below_cell hbw (hc1 k _ (List.getElem?_eq_getElem hlt))
        have c2 := below_cell hbw (hc2 k _ (List.getElem?_eq_getElem hlt))
        generalize L[k] = n at c1 c2
        go_wp2_with fail
        go_quiet (fail)
        go_wp2_with fail
        go_roundw
        case rel => exact ⟨k + 1, by omega, by go_num, below_drewN hbw _⟩
        case measure => simp [intOf]; omega
      · go_wp2_with fail
        go_ret
        exact ⟨rfl, hbw⟩
end Go.Proofs.Ytafefnpmgpmjpaa
