/- The drawers of chapter 20: patterns, a fault. -/
import Derived.Test.YtmnepaedkilnoaaDrawRec
import Derived.Deep.RegionLaw
import Derived.Deep.RegionHeld
namespace Go.Proofs.Ytmnepaedkilnoaa
open Go Go.RowKit
set_option linter.unusedVariables false
/- the slices inside the patterns of a row of the call's own: each lies in a block of its own -/
def RowsIn (lo : Nat) (w : World) (A : Option Addr) (L : List Pattern) : Prop :=
  ∀ c ∈ L, Own encI 1 3 lo w (.slice c.ca c.codes.length c.cc) c.codes ∧ (∀ q, A = some ⟨q, 0, none⟩ → (Value.slice c.ca c.codes.length c.cc).ownBlock ≠ some q) ∧ c.codes.length ≤ 10
theorem RowsIn.nil {lo : Nat} {w : World} {A : Option Addr} : RowsIn lo w A [] := fun c hc => by cases hc
theorem RowsIn.below {lo m : Nat} {a b : World} {A : Option Addr} {L : List Pattern} (h : RowsIn lo a A L) (hm : a.heap.size ≤ m) (hb : Below m a b) : RowsIn lo b A L := fun c hc => ⟨own_keep (h c hc).1 hm hb, (h c hc).2⟩
theorem RowsIn.low {lo m : Nat} {a b : World} {A : Option Addr} {L : List Pattern} (h : RowsIn lo a A L) (hlt : ∀ c ∈ L, ∀ x, c.ca = some x → x.block < m) (hb : Below m a b) : RowsIn lo b A L := fun c hc => ⟨own_low (h c hc).1 (fun k hk => by
  cases e : c.ca with
  | none => rw [e] at hk; cases hk
  | some x => rw [e] at hk; injection hk with hk; rw [← hk]; exact hlt c hc x e) hb, (h c hc).2⟩
theorem RowsIn.moved {lo g : Nat} {a b : World} {A : Option Addr} {L : List Pattern} (h : RowsIn lo a A L) (hm : a.grownBy b (some g)) (hg : g < lo) : RowsIn lo b A L := fun c hc => ⟨own_moved hm hg (h c hc).1, (h c hc).2⟩
theorem RowsIn.push {lo H q : Nat} {a b : World} {A : Option Addr} {v : Value} {L : List Pattern} {c : Pattern} (h : RowsIn lo a A L) (hb : a.grownBy b v.ownBlock) (hv : ∀ k, v.ownBlock = some k → A = some ⟨k, 0, none⟩) (hq : v.ownBlock = some q ∨ q = H) (hH : a.heap.size ≤ H)
    (hc : Own encI 1 3 lo a (.slice c.ca c.codes.length c.cc) c.codes) (hca : ∀ q, A = some ⟨q, 0, none⟩ → (Value.slice c.ca c.codes.length c.cc).ownBlock ≠ some q) (hl : c.codes.length ≤ 10) : RowsIn lo b (some ⟨q, 0, none⟩) (L ++ [c]) := by
  have key : ∀ d : Pattern, Own encI 1 3 lo a (.slice d.ca d.codes.length d.cc) d.codes → (∀ q, A = some ⟨q, 0, none⟩ → (Value.slice d.ca d.codes.length d.cc).ownBlock ≠ some q) → Own encI 1 3 lo b (.slice d.ca d.codes.length d.cc) d.codes ∧ ∀ q', some (⟨q, 0, none⟩ : Addr) = some ⟨q', 0, none⟩ → (Value.slice d.ca d.codes.length d.cc).ownBlock ≠ some q' := by
    intro d hd hda
    constructor
    · refine own_grown hd hb ?_
      cases e : v.ownBlock with
      | none => cases e2 : (Value.slice d.ca d.codes.length d.cc).ownBlock with
        | none => exact .inr rfl
        | some k => exact .inl (by simp)
      | some k => exact .inl (hda k (hv k e))
    · intro q' hq'
      injection hq' with hq'; injection hq' with hq'; subst hq'
      rcases hq with h1 | h1
      · exact hda q (hv q h1)
      · intro h2
        have := (hd.lt q h2).2
        omega
  intro d hd
  rcases List.mem_append.1 hd with h1 | h1
  · exact ⟨(key d (h d h1).1 (h d h1).2.1).1, (key d (h d h1).1 (h d h1).2.1).2, (h d h1).2.2⟩
  · simp at h1; subst h1
    exact ⟨(key _ hc hca).1, (key _ hc hca).2, hl⟩
def PatPost (B g K : Nat) (w : World) (e : Ending) (w' : World) : Prop :=
  ∃ (A : Option Addr) (cap n : Nat) (L : List Pattern), e = .returned (.slice A n cap) ∧ L.length = n ∧ n ≤ 6 ∧ Own Pattern.enc 3 62 w.heap.size w' (.slice A n cap) L ∧ RowsIn w.heap.size w' A L ∧ Cur B w' g K ∧ w.grownBy w' (some g)
set_option maxRecDepth 100000 in
set_option maxHeartbeats 4000000 in
theorem patterns_any (B g K : Nat) (w : World) (h0 : Cur B w g K) (hK : K ≤ 100000) :
    Calls Try.prog 76 #[.pointer (some ⟨g, 0, none⟩)] w (PatPost B g (K + 200) w) := by
  have hg0 := h0.lt
  have hb0 : Below w.heap.size w (w.alloc (.cells #[] 62)) := (Below.refl _ _).alloc (Nat.le_refl _) _
  have hown : Own Pattern.enc 3 62 w.heap.size (w.alloc (.cells #[] 62)) (.slice (some ⟨w.heap.size, 0, none⟩) 0 0) ([] : List Pattern) := own_empty (Nat.le_refl _)
  have hmov : w.grownBy (w.alloc (.cells #[] 62)) (some g) := moved_below hb0
  have hcur := h0.below hb0
  clear hb0 h0
  go_enter Try.func76, Try.ntmps76
  go_wp2_with fail
  go_loopw [3, 4] (fun l n wr => ∃ (q cap z k : Nat) (L : List Pattern), l = .slice (some ⟨q, 0, none⟩) z cap ∧ L.length = z ∧ n = .int .i64 k ∧ 1 ≤ k ∧ k ≤ 6 ∧ z + 1 ≤ k ∧ Own Pattern.enc 3 62 w.heap.size wr (.slice (some ⟨q, 0, none⟩) z cap) L ∧ RowsIn w.heap.size wr (some ⟨q, 0, none⟩) L ∧ Cur B wr g (K + 10 * k) ∧ w.grownBy wr (some g)) (fun _ n _ => 10 - (intOf n).toNat)
  case atStart => exact ⟨_, _, _, 1, [], rfl, rfl, rfl, by omega, by omega, by omega, hown, .nil, hcur.mono (by omega), hmov⟩
  case round =>
    clear hown hcur hmov
    obtain ⟨q, cap, z, k, L, rfl, hL, rfl, hk1, hk6, hzk, hown, hrows, hcur, hmov⟩ := hrel
    have hq0' := (hown.lt q rfl).2
    have hrhi0 : ∀ c ∈ L, ∀ a, c.ca = some a → a.block < wr.heap.size := fun c hc a ha => by
      rcases (hrows c hc).1.2 with ⟨h, _⟩ | ⟨g2, c2, cur2, h, _, hh, _⟩
      · rw [ha] at h; cases h
      · rw [ha] at h; injection h with h; injection h with h; rw [h]; exact (Array.getElem?_eq_some_iff.1 hh).1
    by_cases hlt : k < 6
    · have hlti : (k : Int) < 6 := by omega
      go_wp2_with fail
      refine (one_any B g _ _ _ (by assumption) (by omega) (by omega) (by omega)).mono ?_
      rintro e w1 ⟨b, rfl, hcur, hm1⟩
      have hown := own_moved hm1 hg0 hown; have hrows := hrows.moved hm1 hg0; have hmov := moved_trans hmov hm1; clear hm1
      have hs1 := hmov.size
      have hq0 : q < w1.heap.size := (hown.lt q rfl).2
      have hrhi : ∀ c ∈ L, ∀ a, c.ca = some a → a.block < w1.heap.size := fun c hc a ha => by
        rcases (hrows c hc).1.2 with ⟨h, _⟩ | ⟨g2, c2, cur2, h, _, hh, _⟩
        · rw [ha] at h; cases h
        · rw [ha] at h; injection h with h; injection h with h; rw [h]; exact (Array.getElem?_eq_some_iff.1 hh).1
      clear hrhi0 hq0'
      cases b
      · have hbA : Below w1.heap.size w1 (w1.alloc (.cells #[] 3)) := (Below.refl _ _).alloc (Nat.le_refl _) _
        have hcod : Own encI 1 3 w1.heap.size (w1.alloc (.cells #[] 3)) (.slice (some ⟨w1.heap.size, 0, none⟩) 0 0) ([] : List Int) := own_empty (Nat.le_refl _)
        have hcur := hcur.below hbA; have hown := Own.below hown hbA; have hrows := hrows.below (Nat.le_refl _) hbA; have hmov := moved_then hmov hbA
        go_wp2_with fail
        refine (among_lit B g _ _ _ _ _ _ (by simp [intOf]) (by rfl) (by first | rfl | simp) (by omega) (by omega) hcur (by omega)).mono ?_
        rintro e w2 ⟨x, rfl, hx, hcur, hm1⟩
        have hown := own_moved hm1 hg0 hown; have hrows := hrows.moved hm1 hg0; have hmov := moved_trans hmov hm1; have hcod := own_moved hm1 (show g < w1.heap.size by omega) hcod
        have hs2 : w1.heap.size + 1 ≤ w2.heap.size := by have := hm1.size; simpa using this
        clear hm1 hx hbA
        go_wp2_with fail
        have hbB : Below w2.heap.size w2 (w2.alloc (.cells #[.int .i64 (7 * (k : Int)), .slice (some ⟨w1.heap.size, 0, none⟩) 0 0, .int .i64 x] 62)) := (Below.refl _ _).alloc (Nat.le_refl _) _
        have hbox : (w2.alloc (.cells #[.int .i64 (7 * (k : Int)), .slice (some ⟨w1.heap.size, 0, none⟩) 0 0, .int .i64 x] 62)).heap[w2.heap.size]? = some (.cells #[.int .i64 (7 * (k : Int)), .slice (some ⟨w1.heap.size, 0, none⟩) 0 0, .int .i64 x] 62 (0, 0)) := heap_alloc_new _ _
        have hcur := hcur.below hbB; have hown := Own.below hown hbB; have hcod := Own.below hcod hbB; have hrows := hrows.below (Nat.le_refl _) hbB; have hmov := moved_then hmov hbB
        generalize (w2.alloc (.cells #[.int .i64 (7 * (k : Int)), .slice (some ⟨w1.heap.size, 0, none⟩) 0 0, .int .i64 x] 62)) = w3 at *
        have hbp : w1.heap.size + 1 ≤ w2.heap.size := hs2
        have hq1 := (hown.lt q rfl).1
        have hqs : q < w1.heap.size := by first | exact hq0 | omega
        generalize w2.heap.size = bp at *
        generalize w1.heap.size = hi at *
        refine (pick_any B g _ _ _ (by assumption) (by omega) (by omega) (by omega)).mono ?_
        rintro e w4 ⟨m0, rfl, hm0, hcur, hm1⟩
        have hown := own_moved hm1 hg0 hown; have hrows := hrows.moved hm1 hg0; have hmov := moved_trans hmov hm1; have hcod := own_moved hm1 (show g < hi by omega) hcod
        have hbox : w4.heap[bp]? = _ := (hm1.block bp (Array.getElem?_eq_some_iff.1 hbox).1 (by intro e; injection e with e; omega)).trans hbox
        clear hm1 hbB
        go_wp2_with fail
        go_loopw [6] (fun n wr => ∃ (m qc cc : Nat) (M : List Int), n = .int .i64 m ∧ M.length + m ≤ 4 ∧ wr.heap[bp]? = some (.cells #[.int .i64 (7 * (k : Int)), .slice (some ⟨qc, 0, none⟩) M.length cc, .int .i64 x] 62 (0, 0)) ∧ Own encI 1 3 hi wr (.slice (some ⟨qc, 0, none⟩) M.length cc) M ∧
          Own Pattern.enc 3 62 w.heap.size wr (.slice (some ⟨q, 0, none⟩) z cap) L ∧ RowsIn w.heap.size wr (some ⟨q, 0, none⟩) L ∧ (∀ c ∈ L, ∀ a, c.ca = some a → a.block < hi) ∧ Cur B wr g (K + 10 * k + 3 + M.length) ∧ w.grownBy wr (some g)) (fun n _ => (intOf n).toNat)
        case atStart => exact ⟨1 + m0, _, _, [], in_eq (by omega), by simp; omega, hbox, hcod, hown, hrows, hrhi, hcur.mono (by omega), hmov⟩
        case round =>
          clear hown hrows hcur hmov hcod hbox hrhi hm0
          obtain ⟨m, qc, cc, M, rfl, hM, hbox, hcod, hown, hrows, hrhi, hcur, hmov⟩ := hrel
          have y0 := cell_at (j := 0) hbox rfl; have y1 := cell_at (j := 1) hbox rfl; have y2 := cell_at (j := 2) hbox rfl
          have hqcb := (hcod.lt qc rfl).1
          have hne : qc ≠ bp := by
            rintro rfl
            rcases hcod.2 with ⟨h, _⟩ | ⟨g2, c2, cur2, h, _, hh, _⟩
            · cases h
            · injection h with h; injection h with h; injection h with h; subst h; rw [hbox] at hh; injection hh with hh; injection hh with _ hh; exact absurd hh (by decide)
          by_cases hm0 : m = 0
          · subst hm0
            have hz0 : ((0 : Nat) : Int) = 0 := rfl
            rw [hz0]
            subst hL
            go_wp2_with (at_builtin; refine wpList_push2 _ rfl (.tmp 36) (.tmp 38) 32 62 rfl Try.underlying32 Pattern.infoE rfl (by omega) (by omega) Pattern.enc_len Pattern.enc_one w.heap.size _ _ L { fault := 7 * (k : Int), codes := M, within := x, ca := some ⟨qc, 0, none⟩, cc := cc } _ rfl rfl _ rfl rfl hown hmov.size (by omega) ?_; intro q5 cap5 w5 ho5 hb5 hg5 hq5)
            have hbx : Below wr.heap.size wr (wr.alloc (.cells #[.int .i64 (7 * (k : Int)), .slice (some ⟨qc, 0, none⟩) M.length cc, .int .i64 x] 62)) := (Below.refl _ _).alloc (Nat.le_refl _) _
            have hr5 := RowsIn.push (c := { fault := 7 * (k : Int), codes := M, within := x, ca := some ⟨qc, 0, none⟩, cc := cc }) (hrows.below (Nat.le_refl _) hbx) hg5 (fun k hk => by obtain rfl : q = k := Option.some.inj hk; rfl) hq5 (by simp) (Own.mono_ (Own.below hcod hbx) hs1) (fun q' hq' h2 => by have h3 : qc = q' := Option.some.inj h2; injection hq' with hq'; injection hq' with hq'; omega) (by show M.length ≤ 10; omega)
            go_roundw
            case rel => exact ⟨q5, cap5, _, k + 1, _, rfl, by simp, by go_num, by omega, by omega, by omega, ho5, hr5, (hcur.step hg0 hb5).mono (by omega), moved_step hmov hb5⟩
            case measure => simp [intOf] <;> omega
          · obtain ⟨mm, rfl⟩ : ∃ mm, m = mm + 1 := ⟨m - 1, by omega⟩
            have hmi : (0 : Int) < ((mm + 1 : Nat) : Int) := by omega
            have nb := (hmov.size : w.heap.size ≤ wr.heap.size)
            have hbpg : bp ≠ g := by omega
            go_wp2_with fail
            go_region_law (first
              | (go_simp; go_at_call 88; refine (pick_any B g _ _ _ (hcur.below ((Below.refl wr.heap.size wr).drew)) (by omega) (by omega) (by omega)).mono ?_; rintro e w4 ⟨j, rfl, hj, hcur4, hm4⟩; have hm5 : wr.grownBy w4 (some g) := moved_first ((Below.refl wr.heap.size wr).drew) hm4; have y4 := moved_cell hm5 hbpg y1; have n4 := World.new_ne w4 _ y4; have hwj : IntKind.i64.wrap (1 + (j : Int)) = 1 + (j : Int) := (by rw [IntKind.wrap_i64]; omega); have y6 := (World.cell?_alloc_lt w4 (.cells #[.int .i64 (1 + (j : Int))] 3) ⟨bp, 1, none⟩ (World.block_lt_of_cell? _ _ y4)).trans y4; have hcod4 := own_moved hm5 (show g < hi by omega) hcod; have hbx4 := (hm5.block bp (Array.getElem?_eq_some_iff.1 hbox).1 (by intro e; injection e with e; omega)).trans hbox; dsimp only)
              | (refine step_push2 _ rfl (.tmp 29) (.tmp 33) 45 3 rfl Try.underlying45 infoI rfl (by omega) (by omega) encI_len encI_one hi _ cc M (1 + (j : Int)) _ rfl rfl _ rfl rfl hcod4 (Nat.le_of_lt (Nat.lt_of_le_of_lt hqcb (hcod4.lt qc rfl).2)) (by omega) ?_; intro q5 cc5 w5 ho5 hb5 hg5 hq5; have hbx5 := (hg5.block bp (by simp; have := (Array.getElem?_eq_some_iff.1 hbx4).1; omega) (by intro e; injection e with e; exact hne e.symm)).trans (((Below.refl w4.heap.size w4).alloc (Nat.le_refl _) (.cells #[.int .i64 (1 + (j : Int))] 3)).block bp (Array.getElem?_eq_some_iff.1 hbx4).1 |>.trans hbx4); have y5 := cell_at (j := 1) hbx5 rfl; have fz5 := free_at (j := 1) hbx5))
            all_goals
              go_wp2_with fail
              have hown4 := own_moved hm5 hg0 hown; have hrows4 := hrows.moved hm5 hg0; have hmov4 := moved_trans hmov hm5
              have hBF : Below hi w4 (w5.setCell ⟨bp, 1, none⟩ (.slice (some ⟨q5, 0, none⟩) (M.length + 1) cc5)) := hb5.setCell (by show hi ≤ bp; omega) _
              have hbF := heap_setCell_same w5 bp 1 _ 62 (.slice (some ⟨q5, 0, none⟩) (M.length + 1) cc5) hbx5
              have hq5b : q5 ≠ bp := by
                rcases hq5 with h | h
                · injection h with h; rw [← h]; exact hne
                · have := (Array.getElem?_eq_some_iff.1 hbx4).1; omega
              have hoF := own_grown ho5 (moved_set (g := bp) (j := 1) (u := .slice (some ⟨q5, 0, none⟩) (M.length + 1) cc5) (moved_refl w5 bp)) (.inl (by intro e; injection e with e; exact hq5b e))
              go_roundw
              case rel => exact ⟨mm, q5, cc5, M ++ [1 + (j : Int)], in_eq (by omega), by simp; omega, by rw [List.length_append]; exact hbF, by rw [List.length_append]; exact hoF, own_low hown4 (fun k' hk => by have h3 : q = k' := Option.some.inj hk; omega) hBF, hrows4.low hrhi hBF, hrhi, (hcur4.low (show g < hi by omega) hBF).mono (by simp; omega), moved_step hmov4 (hBF.mono hs1)⟩
              case measure => simp [intOf] <;> omega
      · go_wp2_with fail
        go_roundw
        case rel => exact ⟨_, _, _, k + 1, _, rfl, hL, by go_num, by omega, by omega, by omega, hown, hrows, hcur.mono (by omega), hmov⟩
        case measure => simp [intOf] <;> omega
    · have hk : k = 6 := by omega
      have hnlt : ¬ (k : Int) < 6 := by omega
      subst hL
      go_wp2_with fail
      refine (one_any B g _ _ _ (by assumption) (by omega) (by omega) (by omega)).mono ?_
      rintro e w1 ⟨b, rfl, hcur, hm1⟩
      have hown := own_moved hm1 hg0 hown; have hrows := hrows.moved hm1 hg0; have hmov := moved_trans hmov hm1; clear hm1 hrhi0
      have hs1 := hmov.size
      cases b
      · go_wp2_with fail
        go_ret
        exact ⟨_, _, _, L, rfl, rfl, by omega, hown, hrows, hcur.mono (by omega), hmov⟩
      · go_wp2_with fail
        refine (among_lit B g _ _ _ _ _ _ (by simp [intOf]) (by rfl) (by first | rfl | simp) (by omega) (by omega) hcur (by omega)).mono ?_
        rintro e w2 ⟨xa, rfl, hxa, hcur, hm1⟩
        have hown := own_moved hm1 hg0 hown; have hrows := hrows.moved hm1 hg0; have hmov := moved_trans hmov hm1; clear hm1 hxa
        go_wp2_with fail
        refine (among_lit B g _ _ _ _ _ _ (by simp [intOf]) (by rfl) (by first | rfl | simp) (by omega) (by omega) hcur (by omega)).mono ?_
        rintro e w3 ⟨xb, rfl, hxb, hcur, hm1⟩
        have hown := own_moved hm1 hg0 hown; have hrows := hrows.moved hm1 hg0; have hmov := moved_trans hmov hm1; clear hm1 hxb
        have hs3 := hmov.size; have hq3' := (hown.lt q rfl).2
        have hbA : Below w3.heap.size w3 (w3.alloc (.cells #[.int .i64 xb] 3)) := (Below.refl _ _).alloc (Nat.le_refl _) _
        have hcod : Own encI 1 3 w3.heap.size (w3.alloc (.cells #[.int .i64 xb] 3)) (.slice (some ⟨w3.heap.size, 0, none⟩) 1 1) [xb] := World.ownsRow_lit (e := 3) (size := 1) w3 #[.int .i64 xb] 1 (Nat.le_refl _) (by decide) rfl
        have hcur := hcur.below hbA; have hown := Own.below hown hbA; have hrows := hrows.below (Nat.le_refl _) hbA; have hmov := moved_then hmov hbA
        have hq3 : q < w3.heap.size := hq3'
        go_wp2_with fail
        refine (among_lit B g _ _ _ _ _ _ (by simp [intOf]) (by rfl) (by first | rfl | simp) (by omega) (by omega) hcur (by omega)).mono ?_
        rintro e w4 ⟨xc, rfl, hxc, hcur, hm1⟩
        have hcod := own_moved hm1 (show g < w3.heap.size by omega) hcod
        have hown := own_moved hm1 hg0 hown; have hrows := hrows.moved hm1 hg0; have hmov := moved_trans hmov hm1; clear hm1 hxc hbA
        go_wp2_with (at_builtin; refine wpList_push2 _ rfl (.tmp 42) (.tmp 54) 32 62 rfl Try.underlying32 Pattern.infoE rfl (by omega) (by omega) Pattern.enc_len Pattern.enc_one w.heap.size _ _ L { fault := xa, codes := [xb], within := xc, ca := some ⟨w3.heap.size, 0, none⟩, cc := 1 } _ rfl rfl _ rfl rfl hown hmov.size (by omega) ?_; intro q5 cap5 w5 ho5 hb5 hg5 hq5)
        have hbx : Below w4.heap.size w4 (w4.alloc (.cells #[.int .i64 xa, .slice (some ⟨w3.heap.size, 0, none⟩) 1 1, .int .i64 xc] 62)) := (Below.refl _ _).alloc (Nat.le_refl _) _
        have hr5 := RowsIn.push (c := { fault := xa, codes := [xb], within := xc, ca := some ⟨w3.heap.size, 0, none⟩, cc := 1 }) (hrows.below (Nat.le_refl _) hbx) hg5 (fun k hk => by obtain rfl : q = k := Option.some.inj hk; rfl) hq5 (by simp) (Own.mono_ (Own.below hcod hbx) hs3) (fun q' hq' h2 => by have h3 : w3.heap.size = q' := Option.some.inj h2; injection hq' with hq'; injection hq' with hq'; omega) (by show 1 ≤ 10; omega)
        go_ret
        exact ⟨_, _, _, _, rfl, by simp, by omega, ho5, hr5, (hcur.step hg0 hb5).mono (by omega), moved_step hmov hb5⟩
set_option maxHeartbeats 2000000 in
theorem faultOf_any (B g K : Nat) (L : List Pattern) (q cap : Nat) (A : Option Addr) (w : World) (h0 : Cur B w g K) (hK : K ≤ 100000) (hl : L.length ≤ 100) (hown : Own Pattern.enc 3 62 (g + 1) w (.slice A L.length cap) L) :
    Calls Try.prog 77 #[.pointer (some ⟨g, 0, none⟩), .slice A L.length cap] w (fun e w' => ∃ x : Int, e = .returned (.int .i64 x) ∧ Cur B w' g (K + 10) ∧ w.grownBy w' (some g)) := by
  by_cases hL : L = []
  · subst hL
    go_enter Try.func77, Try.ntmps77
    go_wp2_with fail
    refine (among_lit B g _ _ _ _ _ _ (by simp [intOf]) (by rfl) (by first | rfl | simp) (by omega) (by omega) h0 (by omega)).mono ?_
    rintro e w2 ⟨x, rfl, hx, hcur, hm1⟩
    go_wp2_with fail
    go_ret
    exact ⟨x, rfl, hcur.mono (by omega), hm1⟩
  · have hlp := List.length_pos_iff.2 hL
    obtain ⟨p, rfl, hp0, hp1⟩ := own_head hown rfl hlp
    have hl0 : ((L.length : Int) == 0) = false := by simp; omega
    go_enter Try.func77, Try.ntmps77
    go_wp2_with fail
    refine (one_any B g _ _ _ h0 (by omega) (by omega) (by omega)).mono ?_
    rintro e w1 ⟨b, rfl, hcur, hm1⟩
    have hown := own_moved hm1 (Nat.lt_succ_self g) hown
    cases b
    · go_wp2_with fail
      refine (pick_any B g _ _ _ hcur (by omega) (by omega) (by omega)).mono ?_
      rintro e w2 ⟨j, rfl, hj, hcur, hm2⟩
      have hown := own_moved hm2 (Nat.lt_succ_self g) hown
      have hj2 : j < L.length := by omega
      have hj3 : (j : Int) < (L.length : Int) := by omega
      have y := own_cell hown (flat_get Pattern.enc_len L j _ (List.getElem?_eq_getElem hj2) 0 _ rfl)
      rw [Nat.add_zero] at y
      generalize L[j] = c at *
      go_wp2_with fail
      go_ret
      exact ⟨_, rfl, hcur.mono (by omega), moved_trans hm1 hm2⟩
    · go_wp2_with fail
      refine (among_lit B g _ _ _ _ _ _ (by simp [intOf]) (by rfl) (by first | rfl | simp) (by omega) (by omega) hcur (by omega)).mono ?_
      rintro e w2 ⟨x, rfl, hx, hcur, hm2⟩
      go_wp2_with fail
      go_ret
      exact ⟨x, rfl, hcur.mono (by omega), moved_trans hm1 hm2⟩
/- what a law draws: a record, patterns, a fault -/
def RPf (w : World) (e : Ending) (w' : World) : Prop := ∃ (A0 A1 : Option Addr) (n0 c0 n1 c1 : Nat) (R : List Event) (L : List Pattern) (x : Int), e = .returned (.tuple #[.slice A0 n0 c0, .slice A1 n1 c1, .int .i64 x]) ∧ R.length = n0 ∧ (n0 ≤ 100 ∧ n0 ≤ c0) ∧ Rd Event.enc 2 w'.heap.size w' A0 R ∧ L.length = n1 ∧ n1 ≤ 100 ∧ Rd Pattern.enc 3 w'.heap.size w' A1 L ∧ (∀ c ∈ L, c.Ok) ∧ Pattern.DeepP w'.heap.size w' L ∧ Below w.heap.size w w'
def RPd (w : World) (e : Ending) (w' : World) : Prop := ∃ (A0 A1 : Option Addr) (n0 c0 n1 c1 : Nat) (R : List Event) (L : List Pattern), e = .returned (.tuple #[.slice A0 n0 c0, .slice A1 n1 c1]) ∧ R.length = n0 ∧ n0 ≤ 100 ∧ Rd Event.enc 2 w'.heap.size w' A0 R ∧ L.length = n1 ∧ n1 ≤ 100 ∧ Rd Pattern.enc 3 w'.heap.size w' A1 L ∧ (∀ c ∈ L, c.Ok) ∧ Pattern.DeepP w'.heap.size w' L ∧ Below w.heap.size w w'
def Rxy (w : World) (e : Ending) (w' : World) : Prop := ∃ (A0 : Option Addr) (n0 c0 : Nat) (R : List Event) (x y : Int), e = .returned (.tuple #[.slice A0 n0 c0, .int .i64 x, .int .i64 y]) ∧ R.length = n0 ∧ n0 ≤ 100 ∧ Rd Event.enc 2 w'.heap.size w' A0 R ∧ (-100000 ≤ x ∧ x ≤ 100000) ∧ (-100000 ≤ y ∧ y ≤ 100000) ∧ Below w.heap.size w w'
theorem rows_ok {lo : Nat} {w : World} {A : Option Addr} {L : List Pattern} (h : RowsIn lo w A L) : (∀ c ∈ L, c.Ok) ∧ Pattern.DeepP w.heap.size w L := ⟨fun c hc => by have := (h c hc).2.2; show c.codes.length ≤ maxLen; unfold maxLen; omega, fun c hc => Own.rd_of (fun _ => rfl) (h c hc).1⟩

set_option maxRecDepth 100000 in
set_option maxHeartbeats 2000000 in
theorem DrawFirstMatch_any (A : Option Addr) (Lc : List Int) (cap : Nat) (w : World) (hc : CodeIs w A Lc) :
    Calls Try.prog 45 #[.slice A Lc.length cap] w (RPf w) := by
  have hcur := cur_new hc cap
  have hb0 : Below w.heap.size w (w.alloc (.cells #[.slice A Lc.length cap, .int .i64 0, .int .u64 0] 88)) := (Below.refl _ _).alloc (Nat.le_refl _) _
  have hg0 := hcur.lt
  have HZ0 := hide (show (w.alloc (.cells #[.slice A Lc.length cap, .int .i64 0, .int .u64 0] 88)).heap.size = w.heap.size + 1 by simp)
  go_enter Try.func45, Try.ntmps45
  go_wp2_with fail
  generalize (w.alloc (.cells #[.slice A Lc.length cap, .int .i64 0, .int .u64 0] 88)) = w0 at *
  have HB := hb0; clear hb0
  refine (record_any _ _ _ _ (by assumption) (by omega)).mono ?_
  rintro e w1 ⟨AR, cR, nR, R, rfl, hLR, hownR, hzR, hcur, hm⟩
  have HB := HB.trans (below_moved hm (Nat.le_refl _) (by omega)); have hs1 := hm.size; clear hm
  go_wp2_with fail
  refine (patterns_any _ _ _ _ (by assumption) (by omega)).mono ?_
  rintro e w2 ⟨AL, cL, nL, L, rfl, hLL, hzL, hownL, hrows, hcur, hm⟩
  have hownR := own_moved hm (by omega) hownR
  have HB := HB.trans (below_moved hm (Nat.le_refl _) (by omega)); have hs2 := hm.size; clear hm
  subst hLL
  go_wp2_with fail
  refine (faultOf_any _ _ _ L 0 _ _ _ (by assumption) (by omega) (by omega) (Own.mono_ hownL (by omega))).mono ?_
  rintro e w3 ⟨x, rfl, hcur, hm⟩
  have hownR := own_moved hm (by omega) hownR; have hownL := own_moved hm (by omega) hownL; have hrows := hrows.moved hm (by omega)
  have HB := HB.trans (below_moved hm (Nat.le_refl _) (by omega)); clear hm
  go_wp2_with fail
  go_ret3
  obtain ⟨k1, k2⟩ := rows_ok hrows
  exact ⟨_, _, _, _, _, _, R, L, x, rfl, hLR, ⟨by omega, own_cap hownR hLR⟩, by subst hLR; exact own_rdm (fun _ => rfl) hownR, rfl, by omega, own_rdm (fun _ => rfl) hownL, k1, k2, HB⟩
set_option maxRecDepth 100000 in
set_option maxHeartbeats 2000000 in
theorem DrawFaultsIn_any (A : Option Addr) (Lc : List Int) (cap : Nat) (w : World) (hc : CodeIs w A Lc) :
    Calls Try.prog 78 #[.slice A Lc.length cap] w (RPd w) := by
  have hcur := cur_new hc cap
  have hb0 : Below w.heap.size w (w.alloc (.cells #[.slice A Lc.length cap, .int .i64 0, .int .u64 0] 88)) := (Below.refl _ _).alloc (Nat.le_refl _) _
  have hg0 := hcur.lt
  have HZ0 := hide (show (w.alloc (.cells #[.slice A Lc.length cap, .int .i64 0, .int .u64 0] 88)).heap.size = w.heap.size + 1 by simp)
  go_enter Try.func78, Try.ntmps78
  go_wp2_with fail
  generalize (w.alloc (.cells #[.slice A Lc.length cap, .int .i64 0, .int .u64 0] 88)) = w0 at *
  have HB := hb0; clear hb0
  refine (record_any _ _ _ _ (by assumption) (by omega)).mono ?_
  rintro e w1 ⟨AR, cR, nR, R, rfl, hLR, hownR, hzR, hcur, hm⟩
  have HB := HB.trans (below_moved hm (Nat.le_refl _) (by omega)); have hs1 := hm.size; clear hm
  go_wp2_with fail
  refine (patterns_any _ _ _ _ (by assumption) (by omega)).mono ?_
  rintro e w2 ⟨AL, cL, nL, L, rfl, hLL, hzL, hownL, hrows, hcur, hm⟩
  have hownR := own_moved hm (by omega) hownR
  have HB := HB.trans (below_moved hm (Nat.le_refl _) (by omega)); have hs2 := hm.size; clear hm
  subst hLL
  go_wp2_with fail
  go_ret2
  obtain ⟨k1, k2⟩ := rows_ok hrows
  exact ⟨_, _, _, _, _, _, R, L, rfl, hLR, by omega, by subst hLR; exact own_rdm (fun _ => rfl) hownR, rfl, by omega, own_rdm (fun _ => rfl) hownL, k1, k2, HB⟩
theorem DrawCountMatches_any (A : Option Addr) (Lc : List Int) (cap : Nat) (w : World) (hc : CodeIs w A Lc) : Calls Try.prog 51 #[.slice A Lc.length cap] w (RPf w) := by
  go_enter Try.func51, Try.ntmps51
  go_wp2_with fail
  refine (DrawFirstMatch_any A Lc cap w hc).mono ?_
  rintro e w1 ⟨A0, A1, n0, c0, n1, c1, R, L, x, rfl, h⟩
  go_wp2_with fail
  go_ret3
  exact ⟨A0, A1, n0, c0, n1, c1, R, L, x, rfl, h⟩
theorem DrawDetectedAt_any (A : Option Addr) (Lc : List Int) (cap : Nat) (w : World) (hc : CodeIs w A Lc) : Calls Try.prog 49 #[.slice A Lc.length cap] w (RPf w) := by
  go_enter Try.func49, Try.ntmps49
  go_wp2_with fail
  refine (DrawFirstMatch_any A Lc cap w hc).mono ?_
  rintro e w1 ⟨A0, A1, n0, c0, n1, c1, R, L, x, rfl, h⟩
  go_wp2_with fail
  go_ret3
  exact ⟨A0, A1, n0, c0, n1, c1, R, L, x, rfl, h⟩
theorem DrawLikeliestFault_any (A : Option Addr) (Lc : List Int) (cap : Nat) (w : World) (hc : CodeIs w A Lc) : Calls Try.prog 50 #[.slice A Lc.length cap] w (RPd w) := by
  go_enter Try.func50, Try.ntmps50
  go_wp2_with fail
  refine (DrawFaultsIn_any A Lc cap w hc).mono ?_
  rintro e w1 ⟨A0, A1, n0, c0, n1, c1, R, L, rfl, h⟩
  go_wp2_with fail
  go_ret2
  exact ⟨A0, A1, n0, c0, n1, c1, R, L, rfl, h⟩
theorem DrawUnexplainedEvents_any (A : Option Addr) (Lc : List Int) (cap : Nat) (w : World) (hc : CodeIs w A Lc) : Calls Try.prog 48 #[.slice A Lc.length cap] w (RPd w) := by
  go_enter Try.func48, Try.ntmps48
  go_wp2_with fail
  refine (DrawFaultsIn_any A Lc cap w hc).mono ?_
  rintro e w1 ⟨A0, A1, n0, c0, n1, c1, R, L, rfl, h⟩
  go_wp2_with fail
  go_ret2
  exact ⟨A0, A1, n0, c0, n1, c1, R, L, rfl, h⟩
set_option maxRecDepth 100000 in
set_option maxHeartbeats 2000000 in
theorem DrawEventsWithin_any (A : Option Addr) (Lc : List Int) (cap : Nat) (w : World) (hc : CodeIs w A Lc) :
    Calls Try.prog 52 #[.slice A Lc.length cap] w (Rxy w) := by
  have hcur := cur_new hc cap
  have hb0 : Below w.heap.size w (w.alloc (.cells #[.slice A Lc.length cap, .int .i64 0, .int .u64 0] 88)) := (Below.refl _ _).alloc (Nat.le_refl _) _
  have hg0 := hcur.lt
  have HZ0 := hide (show (w.alloc (.cells #[.slice A Lc.length cap, .int .i64 0, .int .u64 0] 88)).heap.size = w.heap.size + 1 by simp)
  go_enter Try.func52, Try.ntmps52
  go_wp2_with fail
  generalize (w.alloc (.cells #[.slice A Lc.length cap, .int .i64 0, .int .u64 0] 88)) = w0 at *
  have HB := hb0; clear hb0
  refine (among_lit _ _ _ _ _ _ _ _ (by simp [intOf]) (by rfl) (by first | exact HZ0.out | rfl | simp) (by omega) (by omega) hcur (by omega)).mono ?_
  rintro e w9 ⟨x, rfl, hx, hcur, hm⟩
  have hxb : -1000 ≤ x ∧ x ≤ 1000 := by simp [intsOf, intOf] at hx; omega
  have HB := HB.trans (below_moved hm (Nat.le_refl _) (by omega)); have hs9 := hm.size; clear hm hx
  go_wp2_with fail
  refine (record_any _ _ _ _ (by assumption) (by omega)).mono ?_
  rintro e w1 ⟨AR, cR, nR, R, rfl, hLR, hownR, hzR, hcur, hm⟩
  have HB := HB.trans (below_moved hm (Nat.le_refl _) (by omega)); have hs1 := hm.size; clear hm
  go_wp2_with fail
  refine (among_lit _ _ _ _ _ _ _ _ (by simp [intOf]) (by rfl) (by first | exact HZ0.out | rfl | simp) (by omega) (by omega) hcur (by omega)).mono ?_
  rintro e w8 ⟨y, rfl, hy, hcur, hm⟩
  have hyb : -1000 ≤ y ∧ y ≤ 1000 := by simp [intsOf, intOf] at hy; omega
  have hownR := own_moved hm (by omega) hownR
  have HB := HB.trans (below_moved hm (Nat.le_refl _) (by omega)); clear hm hy
  go_wp2_with fail
  go_ret3
  exact ⟨_, _, _, R, x, x + y, rfl, hLR, by omega, by subst hLR; exact own_rdm (fun _ => rfl) hownR, by omega, by omega, HB⟩
end Go.Proofs.Ytmnepaedkilnoaa
