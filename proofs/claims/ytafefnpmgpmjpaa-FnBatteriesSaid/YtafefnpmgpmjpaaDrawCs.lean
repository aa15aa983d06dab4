/- The drawers of chapter 18: consumers, a supply. -/
import Derived.Test.YtafefnpmgpmjpaaRowI
import Derived.Test.YtafefnpmgpmjpaaLibConsumer
import Derived.Test.YtafefnpmgpmjpaaDel
import Derived.Deep.DeepCutAuto
import Derived.Deep.RegionHeldLaw
import Derived.Laws.IdiomStrings
namespace Go.Proofs.Ytafefnpmgpmjpaa
open Go Go.RowKit
set_option linter.unusedVariables false
set_option linter.unusedSimpArgs false
theorem of_ok {cs : Array Value} (h : ((strsOf cs).all fun x => decide (x.size ≤ maxLen)) = true) {x : ByteArray} (hx : x ∈ strsOf cs) : x.size ≤ maxLen := by
  have := List.all_eq_true.1 h x hx
  simpa using this
theorem Consumer.one_cells {lo p : Nat} {w : World} {c : Consumer} (h : Own Consumer.enc 3 65 lo w (.slice (some ⟨p, 0, none⟩) 1 1) [c]) : w.cell? ⟨p, 0, none⟩ = some (.string c.name) ∧ w.cell? ⟨p, 1, none⟩ = some (.int .i64 c.watts) ∧ w.cell? ⟨p, 2, none⟩ = some (.int .i64 c.rank) :=
  ⟨own_cell h (flat_get Consumer.enc_len [c] 0 c rfl 0 _ rfl), own_cell h (flat_get Consumer.enc_len [c] 0 c rfl 1 _ rfl), own_cell h (flat_get Consumer.enc_len [c] 0 c rfl 2 _ rfl)⟩
theorem Consumer.one_heap {lo p : Nat} {w : World} {c : Consumer} (h : Own Consumer.enc 3 65 lo w (.slice (some ⟨p, 0, none⟩) 1 1) [c]) : w.heap[p]? = some (.cells #[.string c.name, .int .i64 c.watts, .int .i64 c.rank] 65 (0, 0)) := by
  rcases h.2 with ⟨hv, _⟩ | ⟨g, c2, cur, hv, _, hh, _, _, hsz, htk⟩
  · cases hv
  · cases hv
    rw [hh]
    have e : cur.toList = Consumer.enc c := by
      have e2 : cur.toList.take (1 * 3) = [c].flatMap Consumer.enc := htk
      rw [List.take_of_length_le (by rw [Array.length_toList]; omega)] at e2
      rw [e2]; simp
    have e3 : cur = #[.string c.name, .int .i64 c.watts, .int .i64 c.rank] := by rw [← Array.toArray_toList (xs := cur), e]; rfl
    rw [e3]
def Lit (g : Nat) (X : World) (p : Nat) (L : List Int) : Prop := p ≠ g ∧ p < X.heap.size ∧ ∀ i x, L[i]? = some x → X.cell? ⟨p, 0 + i, none⟩ = some (.int .i64 x)
theorem Lit.new {g : Nat} {W : World} (cs : Array Value) (T : TypeId) (hcs : ∀ v ∈ cs.toList, v = .int .i64 (intOf v)) (hg : g < W.heap.size) : Lit g (W.alloc (.cells cs T)) W.heap.size (intsOf cs) :=
  ⟨Nat.ne_of_gt hg, by simp, fun i x hx => lit_at cs hcs W T i x hx⟩
theorem Lit.moved {g p : Nat} {W W2 : World} {L : List Int} (h : Lit g W p L) (hm : W.grownBy W2 (some g)) : Lit g W2 p L :=
  ⟨h.1, Nat.lt_of_lt_of_le h.2.1 hm.size, fun i x hx => moved_cell hm h.1 (h.2.2 i x hx)⟩
theorem moved_alloc {a b : World} {g : Nat} (h : a.grownBy b (some g)) (o : Obj) : a.grownBy (b.alloc o) (some g) := moved_then h ((Below.refl _ _).alloc (Nat.le_refl _) _)
theorem moved_drew {a b : World} {g : Nat} (h : a.grownBy b (some g)) : a.grownBy b.drew (some g) := moved_then h (Below.refl _ _).drew
theorem lit_among {B g K p n : Nat} {W : World} (cs : Array Value) (h : Lit g W p (intsOf cs)) (hn : cs.size = n) (h0 : 0 < n) (hn2 : n ≤ 200) (hc : Cur B W g K) (hK : K ≤ 1000000000) :
    Calls Try.prog 62 #[.pointer (some ⟨g, 0, none⟩), .slice (some ⟨p, 0, none⟩) n n] W (AmongPost B g (K + 1) W (intsOf cs)) := by
  have hl : (intsOf cs).length = n := by simp [intsOf, hn]
  have h2 := among_any B g K p 0 n (intsOf cs) W hc hK (by omega) (by omega) h.1 h.2.2
  rwa [hl] at h2
def encT (s : ByteArray) : List Value := [.string s]
theorem encT_len (s : ByteArray) : (encT s).length = 1 := rfl
theorem okpush {L : List Consumer} {c : Consumer} (h : ∀ x ∈ L, x.Ok) (hc : c.Ok) : ∀ x ∈ L ++ [c], x.Ok := fun x hx => by
  rcases List.mem_append.1 hx with h1 | h1
  · exact h x h1
  · simp at h1; subst h1; exact hc
theorem okset {L : List Consumer} {c : Consumer} {k : Nat} (h : ∀ x ∈ L, x.Ok) (hc : c.Ok) : ∀ x ∈ L.set k c, x.Ok := fun x hx => by
  rcases List.mem_or_eq_of_mem_set hx with h1 | h1
  · exact h x h1
  · subst h1; exact hc
def GoodCs (L : List Consumer) : Prop := (∀ c ∈ L, c.Ok) ∧ L.length ≤ 20
def csNames : List ByteArray := [⟨#[100, 114, 105, 118, 101]⟩, ⟨#[108, 105, 103, 104, 116]⟩, ⟨#[100, 111, 111, 114, 115]⟩, ⟨#[114, 97, 100, 105, 111]⟩, ⟨#[104, 101, 97, 116]⟩, ⟨#[98, 114, 97, 107, 101]⟩]
theorem csNames_size {k : Nat} {s : ByteArray} (h : csNames[k]? = some s) : s.size ≤ maxLen := by
  have := List.mem_of_getElem? h
  simp only [csNames, List.mem_cons, List.not_mem_nil, or_false] at this
  unfold maxLen
  rcases this with rfl | rfl | rfl | rfl | rfl | rfl <;> (show _ ≤ _; decide)
theorem names_at {w X : World} {k : Nat} {s : ByteArray} (h : Own encT 1 9 w.heap.size X (.slice (some ⟨w.heap.size + 1, 0, none⟩) 6 6) csNames) (hs : csNames[k]? = some s) : X.cell? ⟨w.heap.size + 1, k, none⟩ = some (.string s) := by
  have y := own_cell h (flat_get encT_len csNames k s hs 0 _ rfl)
  simpa only [Nat.mul_one, Nat.add_zero] using y
set_option maxRecDepth 100000 in
set_option maxHeartbeats 8000000 in
theorem consumers_any (B g K : Nat) (w : World) (h0 : Cur B w g K) (hK : K ≤ 90000) :
    Calls Try.prog 61 #[.pointer (some ⟨g, 0, none⟩)] w (ListPost Consumer.enc 3 65 GoodCs B g (K + 300) w) := by
  have hg0 := h0.lt
  have hb0 : Below w.heap.size w ((w.alloc (.cells #[] 65)).alloc (.cells #[.string ⟨#[100, 114, 105, 118, 101]⟩, .string ⟨#[108, 105, 103, 104, 116]⟩, .string ⟨#[100, 111, 111, 114, 115]⟩, .string ⟨#[114, 97, 100, 105, 111]⟩, .string ⟨#[104, 101, 97, 116]⟩, .string ⟨#[98, 114, 97, 107, 101]⟩] 9)) := ((Below.refl _ _).alloc (Nat.le_refl _) _).alloc (by simp) _
  have hown : Own Consumer.enc 3 65 w.heap.size ((w.alloc (.cells #[] 65)).alloc (.cells #[.string ⟨#[100, 114, 105, 118, 101]⟩, .string ⟨#[108, 105, 103, 104, 116]⟩, .string ⟨#[100, 111, 111, 114, 115]⟩, .string ⟨#[114, 97, 100, 105, 111]⟩, .string ⟨#[104, 101, 97, 116]⟩, .string ⟨#[98, 114, 97, 107, 101]⟩] 9)) (.slice (some ⟨w.heap.size, 0, none⟩) 0 0) ([] : List Consumer) := World.ownsRow.alloc (own_empty (Nat.le_refl _)) _
  have hnm : Own encT 1 9 w.heap.size ((w.alloc (.cells #[] 65)).alloc (.cells #[.string ⟨#[100, 114, 105, 118, 101]⟩, .string ⟨#[108, 105, 103, 104, 116]⟩, .string ⟨#[100, 111, 111, 114, 115]⟩, .string ⟨#[114, 97, 100, 105, 111]⟩, .string ⟨#[104, 101, 97, 116]⟩, .string ⟨#[98, 114, 97, 107, 101]⟩] 9)) (.slice (some ⟨w.heap.size + 1, 0, none⟩) 6 6) csNames := by
    have := World.ownsRow_lit (e := 9) (size := 1) (base := w.heap.size) (w.alloc (.cells #[] 65)) #[.string ⟨#[100, 114, 105, 118, 101]⟩, .string ⟨#[108, 105, 103, 104, 116]⟩, .string ⟨#[100, 111, 111, 114, 115]⟩, .string ⟨#[114, 97, 100, 105, 111]⟩, .string ⟨#[104, 101, 97, 116]⟩, .string ⟨#[98, 114, 97, 107, 101]⟩] 6 (by simp) (by decide) rfl
    rw [show (w.alloc (.cells #[] 65)).heap.size = w.heap.size + 1 by simp] at this
    exact this
  have hmov : w.grownBy ((w.alloc (.cells #[] 65)).alloc (.cells #[.string ⟨#[100, 114, 105, 118, 101]⟩, .string ⟨#[108, 105, 103, 104, 116]⟩, .string ⟨#[100, 111, 111, 114, 115]⟩, .string ⟨#[114, 97, 100, 105, 111]⟩, .string ⟨#[104, 101, 97, 116]⟩, .string ⟨#[98, 114, 97, 107, 101]⟩] 9)) (some g) := moved_below hb0
  have hcur := h0.below hb0
  clear hb0 h0
  go_enter Try.func61, Try.ntmps61
  go_wp2_with fail
  go_loopw [5, 3] (fun i l wr => ∃ (k q cap : Nat) (L : List Consumer), k ≤ 6 ∧ i = .int .i64 k ∧ l = .slice (some ⟨q, 0, none⟩) L.length cap ∧ L.length ≤ k ∧ (∀ c ∈ L, c.Ok) ∧ Own Consumer.enc 3 65 w.heap.size wr (.slice (some ⟨q, 0, none⟩) L.length cap) L ∧ Own encT 1 9 w.heap.size wr (.slice (some ⟨w.heap.size + 1, 0, none⟩) 6 6) csNames ∧ w.heap.size + 1 ≠ q ∧ Cur B wr g (K + 15 * k) ∧ w.grownBy wr (some g)) (fun i _ _ => 6 - (intOf i).toNat)
  case atStart => exact ⟨0, _, _, [], by omega, rfl, rfl, Nat.le_refl _, (fun c hc => by cases hc), hown, hnm, by omega, hcur, hmov⟩
  case round =>
    clear hown hnm hcur hmov
    obtain ⟨k, q, cap, L, hk, rfl, rfl, hll, hok, hown, hnm, hne, hcur, hmov⟩ := hrel
    by_cases hlt : k < 6
    · have hki : (k : Int) < 6 := by omega
      go_wp2_with fail
      refine (one_any B g _ _ _ (by assumption) (by omega) (by omega) (by omega)).mono ?_
      rintro e w1 ⟨b, rfl, hcur, hm1⟩
      have hown := own_moved hm1 hg0 hown
      have hnm := own_moved hm1 hg0 hnm
      have hmov := moved_trans hmov hm1; clear hm1
      cases b
      · go_wp2_with fail
        go_roundw
        case rel => exact ⟨k + 1, q, cap, L, by omega, by go_num, rfl, by omega, hok, hown, hnm, hne, hcur.mono (by omega), hmov⟩
        case measure => simp [intOf] <;> omega
      · obtain ⟨s, hs⟩ : ∃ s, csNames[k]? = some s := ⟨_, List.getElem?_eq_getElem (by show k < 6; omega)⟩
        have HX := hide (fun (X : World) (h : Own encT 1 9 w.heap.size X (.slice (some ⟨w.heap.size + 1, 0, none⟩) 6 6) csNames) => names_at h hs)
        have HSZ := hide (csNames_size hs); clear hs
        have HOKL := hide hok; clear hok
        go_wp2_with fail
        refine wp_region_held_drew (S := (fun w' => w'.cell? ⟨w.heap.size + 1, k, none⟩ = some (.string s))) (by kernel_rfl) ?_ (fun hHeld => ?_)
        · exact HX.out _ (own_moved (moved_drew (moved_refl w1 g)) hg0 hnm)
        replace hown := own_moved (moved_drew (moved_refl w1 g)) hg0 hown
        replace hnm := own_moved (moved_drew (moved_refl w1 g)) hg0 hnm
        replace hcur := hcur.below (Below.refl _ _).drew; replace hmov := moved_drew hmov
        have hgw := Nat.lt_of_lt_of_le hg0 hmov.size
        generalize w1.drew = W at *
        refine wpAnyH_take (i := 0) (v := .slice (some ⟨q, 0, none⟩) L.length cap) rfl (by kernel_rfl) (by kernel_rfl) (by kernel_rfl) (fun _ _ _ h => h) (Or.inl ⟨by rfl, ?_⟩) (by assumption) ?_
        · intro w hSw; (try dsimp only at hSw); first | (go_simp; done) | (go_simp; with_reducible rfl) | (go_simp; omega) | (go_simp; intro hx; exfalso; omega)
        try simp only [Act.put, List.setIfInBounds_toArray, List.set_cons_zero, List.set_cons_succ]
        refine wpAnyH_take (i := 1) (v := .slice (some ⟨w.heap.size + 1, 0, none⟩) 6 6) rfl (by kernel_rfl) (by kernel_rfl) (by kernel_rfl) (fun _ _ _ h => h) (Or.inl ⟨by rfl, ?_⟩) (by assumption) ?_
        · intro w hSw; (try dsimp only at hSw); first | (go_simp; done) | (go_simp; with_reducible rfl) | (go_simp; omega) | (go_simp; intro hx; exfalso; omega)
        try simp only [Act.put, List.setIfInBounds_toArray, List.set_cons_zero, List.set_cons_succ]
        refine wpAnyH_take (i := 2) (v := .int .i64 k) rfl (by kernel_rfl) (by kernel_rfl) (by kernel_rfl) (fun _ _ _ h => h) (Or.inl ⟨by rfl, ?_⟩) (by assumption) ?_
        · intro w hSw; (try dsimp only at hSw); first | (go_simp; done) | (go_simp; with_reducible rfl) | (go_simp; omega) | (go_simp; intro hx; exfalso; omega)
        try simp only [Act.put, List.setIfInBounds_toArray, List.set_cons_zero, List.set_cons_succ]
        refine wpAnyH_take (i := 3) (v := .pointer (some ⟨w.heap.size + 1, k, none⟩)) rfl (by kernel_rfl) (by kernel_rfl) (by kernel_rfl) (fun _ _ _ h => h) (Or.inl ⟨by rfl, ?_⟩) (by assumption) ?_
        · intro w hSw; (try dsimp only at hSw); first | (go_simp; done) | (go_simp; with_reducible rfl) | (go_simp; omega) | (go_simp; intro hx; exfalso; omega)
        try simp only [Act.put, List.setIfInBounds_toArray, List.set_cons_zero, List.set_cons_succ]
        refine wpAnyH_take (i := 4) (v := .string s) rfl (by kernel_rfl) (by kernel_rfl) (by kernel_rfl) (fun _ _ _ h => h) (Or.inl ⟨by rfl, ?_⟩) (by assumption) ?_
        · intro w hSw; (try dsimp only at hSw); first | (go_simp; done) | (go_simp; with_reducible rfl) | (go_simp; omega) | (go_simp; intro hx; exfalso; omega)
        try simp only [Act.put, List.setIfInBounds_toArray, List.set_cons_zero, List.set_cons_succ]
        refine wpAnyH_take (i := 5) (v := .pointer (some ⟨g, 0, none⟩)) rfl (by kernel_rfl) (by kernel_rfl) (by kernel_rfl) (fun _ _ _ h => h) (Or.inl ⟨by rfl, ?_⟩) (by assumption) ?_
        · intro w hSw; (try dsimp only at hSw); first | (go_simp; done) | (go_simp; with_reducible rfl) | (go_simp; omega) | (go_simp; intro hx; exfalso; omega)
        try simp only [Act.put, List.setIfInBounds_toArray, List.set_cons_zero, List.set_cons_succ]
        refine wpAnyH_take (i := 8) (v := .pointer (some ⟨g, 0, none⟩)) rfl (by kernel_rfl) (by kernel_rfl) (by kernel_rfl) (fun _ _ _ h => h) (Or.inl ⟨by rfl, ?_⟩) (by assumption) ?_
        · intro w hSw; (try dsimp only at hSw); first | (go_simp; done) | (go_simp; with_reducible rfl) | (go_simp; omega) | (go_simp; intro hx; exfalso; omega)
        try simp only [Act.put, List.setIfInBounds_toArray, List.set_cons_zero, List.set_cons_succ]
        refine wpAnyH_ready (rs := [6, 9]) (by kernel_rfl) (by simp) ?_
        refine AllReadyH.cons rfl (fun K5 hK => ?_) ?_
        · go_simp
          go_wp2_with fail
          have hl1 := Lit.new (W := W) #[.int .i64 1, .int .i64 50, .int .i64 500, .int .i64 500, .int .i64 3000, .int .i64 1000000] 3 (by simp [intOf]) hgw
          have hmA : W.grownBy (W.alloc (.cells #[.int .i64 1, .int .i64 50, .int .i64 500, .int .i64 500, .int .i64 3000, .int .i64 1000000] 3)) (some g) := moved_alloc (moved_refl W g) _
          replace hown := own_moved hmA hg0 hown
          replace hnm := own_moved hmA hg0 hnm
          replace hcur := hcur.below ((Below.refl _ _).alloc (Nat.le_refl _) (.cells #[.int .i64 1, .int .i64 50, .int .i64 500, .int .i64 500, .int .i64 3000, .int .i64 1000000] 3)); replace hmov := moved_alloc hmov (.cells #[.int .i64 1, .int .i64 50, .int .i64 500, .int .i64 500, .int .i64 3000, .int .i64 1000000] 3)
          replace hgw := Nat.lt_of_lt_of_le hg0 hmov.size
          clear hmA
          refine hK.out _ _ (HX.out _ hnm) (fun hHeld => ?_)
          clear hK K5
          try simp only [Act.put, List.setIfInBounds_toArray, List.set_cons_zero, List.set_cons_succ]
          clear hHeld
          have hHeld := HX.out _ hnm
          generalize W.alloc (.cells #[.int .i64 1, .int .i64 50, .int .i64 500, .int .i64 500, .int .i64 3000, .int .i64 1000000] 3) = W at *
          skip
          refine wpAnyH_ready (rs := [7, 9]) (by kernel_rfl) (by simp) ?_
          refine AllReadyH.cons rfl (fun K5 hK => ?_) ?_
          · go_simp
            go_wp2_with fail
            refine (lit_among #[.int .i64 1, .int .i64 50, .int .i64 500, .int .i64 500, .int .i64 3000, .int .i64 1000000] hl1 (by rfl) (by omega) (by omega) hcur (by omega)).mono ?_
            rintro e W ⟨x1, rfl, hx1, hcur, hmA⟩
            go_wp2_with fail
            replace hown := own_moved hmA hg0 hown
            replace hnm := own_moved hmA hg0 hnm
            replace hl1 := Lit.moved hl1 hmA
            replace hmov := moved_trans hmov hmA; replace hgw := Nat.lt_of_lt_of_le hg0 hmov.size; clear hmA
            refine hK.out _ _ (HX.out _ hnm) (fun hHeld => ?_)
            clear hK K5
            refine wpAnyH_ready (rs := [9]) (by kernel_rfl) (by simp) ?_
            refine AllReadyH.cons rfl (fun K5 hK => ?_) AllReadyH.nil
            go_simp
            go_wp2_with fail
            have hl2 := Lit.new (W := W) #[.int .i64 1, .int .i64 1, .int .i64 2, .int .i64 5, .int .i64 9] 3 (by simp [intOf]) hgw
            have hmA : W.grownBy (W.alloc (.cells #[.int .i64 1, .int .i64 1, .int .i64 2, .int .i64 5, .int .i64 9] 3)) (some g) := moved_alloc (moved_refl W g) _
            replace hown := own_moved hmA hg0 hown
            replace hnm := own_moved hmA hg0 hnm
            replace hl1 := Lit.moved hl1 hmA
            replace hcur := hcur.below ((Below.refl _ _).alloc (Nat.le_refl _) (.cells #[.int .i64 1, .int .i64 1, .int .i64 2, .int .i64 5, .int .i64 9] 3)); replace hmov := moved_alloc hmov (.cells #[.int .i64 1, .int .i64 1, .int .i64 2, .int .i64 5, .int .i64 9] 3)
            replace hgw := Nat.lt_of_lt_of_le hg0 hmov.size
            clear hmA
            refine hK.out _ _ (HX.out _ hnm) (fun hHeld => ?_)
            clear hK K5
            try simp only [Act.put, List.setIfInBounds_toArray, List.set_cons_zero, List.set_cons_succ]
            clear hHeld
            have hHeld := HX.out _ hnm
            generalize W.alloc (.cells #[.int .i64 1, .int .i64 1, .int .i64 2, .int .i64 5, .int .i64 9] 3) = W at *
            skip
            refine wpAnyH_ready (rs := [10]) (by kernel_rfl) (by simp) ?_
            refine AllReadyH.cons rfl (fun K5 hK => ?_) AllReadyH.nil
            go_simp
            go_wp2_with fail
            refine (lit_among #[.int .i64 1, .int .i64 1, .int .i64 2, .int .i64 5, .int .i64 9] hl2 (by rfl) (by omega) (by omega) hcur (by omega)).mono ?_
            rintro e W ⟨x2, rfl, hx2, hcur, hmA⟩
            go_wp2_with fail
            replace hown := own_moved hmA hg0 hown
            replace hnm := own_moved hmA hg0 hnm
            replace hl1 := Lit.moved hl1 hmA
            replace hl2 := Lit.moved hl2 hmA
            replace hmov := moved_trans hmov hmA; replace hgw := Nat.lt_of_lt_of_le hg0 hmov.size; clear hmA
            refine hK.out _ _ (HX.out _ hnm) (fun hHeld => ?_)
            clear hK K5
            refine wpAnyH_take (i := 11) (v := .agg #[.string s, .int .i64 x1, .int .i64 x2]) rfl (by kernel_rfl) (by kernel_rfl) (by kernel_rfl) (fun _ _ _ h => h) (Or.inl ⟨by rfl, ?_⟩) (by assumption) ?_
            · intro w hSw; (try dsimp only at hSw); first | (go_simp; done) | (go_simp; with_reducible rfl) | (go_simp; omega) | (go_simp; intro hx; exfalso; omega)
            try simp only [Act.put, List.setIfInBounds_toArray, List.set_cons_zero, List.set_cons_succ]
            refine wpAnyH_ready (rs := [12]) (by kernel_rfl) (by simp) ?_
            refine AllReadyH.cons rfl (fun K5 hK => ?_) AllReadyH.nil
            go_simp
            go_wp2_with fail
            refine hK.out _ _ (HX.out _ (World.ownsRow.alloc hnm _)) (fun hHeld => ?_)
            clear hK K5
            refine wpAnyH_ready (rs := [13]) (by kernel_rfl) (by simp) ?_
            refine AllReadyH.cons rfl (fun K5 hK => ?_) AllReadyH.nil
            refine step_push2 W rfl (.tmp 18) (.tmp 30) 28 65 rfl Try.underlying28 Consumer.infoE rfl (by omega) (by omega) Consumer.enc_len Consumer.enc_one w.heap.size _ cap L ⟨s, x1, x2⟩ _ rfl rfl _ rfl rfl hown hmov.size (by omega) ?_
            intro q5 cap5 w5 ho5 hb5 hg5 hq5
            replace hcur := hcur.step hg0 hb5; replace hmov := moved_step hmov hb5
            have hne5 := push_ne hnm hq5 hne
            replace hnm := push_keep hnm hg5 hne
            refine hK.out _ _ (HX.out _ hnm) (fun hHeld => ?_)
            clear hK K5
            refine wpAnyH_take (i := 14) (v := .slice (some ⟨q5, 0, none⟩) (L.length + 1) cap5) rfl (by kernel_rfl) (by kernel_rfl) (by kernel_rfl) (fun _ _ _ h => h) (Or.inl ⟨by rfl, ?_⟩) (by assumption) ?_
            · intro w hSw; (try dsimp only at hSw); first | (go_simp; done) | (go_simp; with_reducible rfl) | (go_simp; omega) | (go_simp; intro hx; exfalso; omega)
            try simp only [Act.put, List.setIfInBounds_toArray, List.set_cons_zero, List.set_cons_succ]
            refine wpAnyH_done (by kernel_rfl) ?_ _
            dsimp [Act.put]
            simp only [List.setIfInBounds_toArray, List.set_cons_zero, List.set_cons_succ]
            go_wp2_with fail
            go_roundw
            case rel => exact ⟨k + 1, q5, cap5, L ++ [⟨s, x1, x2⟩], by omega, by go_num, sl_eq (by simp), by simp; omega, okpush HOKL.out (show Consumer.Ok ⟨s, x1, x2⟩ from HSZ.out), by rw [List.length_append]; exact ho5, hnm, hne5, hcur.mono (by omega), hmov⟩
            case measure => simp [intOf] <;> omega
          refine AllReadyH.cons rfl (fun K5 hK => ?_) AllReadyH.nil
          go_simp
          go_wp2_with fail
          have hl2 := Lit.new (W := W) #[.int .i64 1, .int .i64 1, .int .i64 2, .int .i64 5, .int .i64 9] 3 (by simp [intOf]) hgw
          have hmA : W.grownBy (W.alloc (.cells #[.int .i64 1, .int .i64 1, .int .i64 2, .int .i64 5, .int .i64 9] 3)) (some g) := moved_alloc (moved_refl W g) _
          replace hown := own_moved hmA hg0 hown
          replace hnm := own_moved hmA hg0 hnm
          replace hl1 := Lit.moved hl1 hmA
          replace hcur := hcur.below ((Below.refl _ _).alloc (Nat.le_refl _) (.cells #[.int .i64 1, .int .i64 1, .int .i64 2, .int .i64 5, .int .i64 9] 3)); replace hmov := moved_alloc hmov (.cells #[.int .i64 1, .int .i64 1, .int .i64 2, .int .i64 5, .int .i64 9] 3)
          replace hgw := Nat.lt_of_lt_of_le hg0 hmov.size
          clear hmA
          refine hK.out _ _ (HX.out _ hnm) (fun hHeld => ?_)
          clear hK K5
          try simp only [Act.put, List.setIfInBounds_toArray, List.set_cons_zero, List.set_cons_succ]
          clear hHeld
          have hHeld := HX.out _ hnm
          generalize W.alloc (.cells #[.int .i64 1, .int .i64 1, .int .i64 2, .int .i64 5, .int .i64 9] 3) = W at *
          skip
          refine wpAnyH_ready (rs := [7]) (by kernel_rfl) (by simp) ?_
          refine AllReadyH.cons rfl (fun K5 hK => ?_) AllReadyH.nil
          go_simp
          go_wp2_with fail
          refine (lit_among #[.int .i64 1, .int .i64 50, .int .i64 500, .int .i64 500, .int .i64 3000, .int .i64 1000000] hl1 (by rfl) (by omega) (by omega) hcur (by omega)).mono ?_
          rintro e W ⟨x1, rfl, hx1, hcur, hmA⟩
          go_wp2_with fail
          replace hown := own_moved hmA hg0 hown
          replace hnm := own_moved hmA hg0 hnm
          replace hl1 := Lit.moved hl1 hmA
          replace hl2 := Lit.moved hl2 hmA
          replace hmov := moved_trans hmov hmA; replace hgw := Nat.lt_of_lt_of_le hg0 hmov.size; clear hmA
          refine hK.out _ _ (HX.out _ hnm) (fun hHeld => ?_)
          clear hK K5
          refine wpAnyH_ready (rs := [10]) (by kernel_rfl) (by simp) ?_
          refine AllReadyH.cons rfl (fun K5 hK => ?_) AllReadyH.nil
          go_simp
          go_wp2_with fail
          refine (lit_among #[.int .i64 1, .int .i64 1, .int .i64 2, .int .i64 5, .int .i64 9] hl2 (by rfl) (by omega) (by omega) hcur (by omega)).mono ?_
          rintro e W ⟨x2, rfl, hx2, hcur, hmA⟩
          go_wp2_with fail
          replace hown := own_moved hmA hg0 hown
          replace hnm := own_moved hmA hg0 hnm
          replace hl1 := Lit.moved hl1 hmA
          replace hl2 := Lit.moved hl2 hmA
          replace hmov := moved_trans hmov hmA; replace hgw := Nat.lt_of_lt_of_le hg0 hmov.size; clear hmA
          refine hK.out _ _ (HX.out _ hnm) (fun hHeld => ?_)
          clear hK K5
          refine wpAnyH_take (i := 11) (v := .agg #[.string s, .int .i64 x1, .int .i64 x2]) rfl (by kernel_rfl) (by kernel_rfl) (by kernel_rfl) (fun _ _ _ h => h) (Or.inl ⟨by rfl, ?_⟩) (by assumption) ?_
          · intro w hSw; (try dsimp only at hSw); first | (go_simp; done) | (go_simp; with_reducible rfl) | (go_simp; omega) | (go_simp; intro hx; exfalso; omega)
          try simp only [Act.put, List.setIfInBounds_toArray, List.set_cons_zero, List.set_cons_succ]
          refine wpAnyH_ready (rs := [12]) (by kernel_rfl) (by simp) ?_
          refine AllReadyH.cons rfl (fun K5 hK => ?_) AllReadyH.nil
          go_simp
          go_wp2_with fail
          refine hK.out _ _ (HX.out _ (World.ownsRow.alloc hnm _)) (fun hHeld => ?_)
          clear hK K5
          refine wpAnyH_ready (rs := [13]) (by kernel_rfl) (by simp) ?_
          refine AllReadyH.cons rfl (fun K5 hK => ?_) AllReadyH.nil
          refine step_push2 W rfl (.tmp 18) (.tmp 30) 28 65 rfl Try.underlying28 Consumer.infoE rfl (by omega) (by omega) Consumer.enc_len Consumer.enc_one w.heap.size _ cap L ⟨s, x1, x2⟩ _ rfl rfl _ rfl rfl hown hmov.size (by omega) ?_
          intro q5 cap5 w5 ho5 hb5 hg5 hq5
          replace hcur := hcur.step hg0 hb5; replace hmov := moved_step hmov hb5
          have hne5 := push_ne hnm hq5 hne
          replace hnm := push_keep hnm hg5 hne
          refine hK.out _ _ (HX.out _ hnm) (fun hHeld => ?_)
          clear hK K5
          refine wpAnyH_take (i := 14) (v := .slice (some ⟨q5, 0, none⟩) (L.length + 1) cap5) rfl (by kernel_rfl) (by kernel_rfl) (by kernel_rfl) (fun _ _ _ h => h) (Or.inl ⟨by rfl, ?_⟩) (by assumption) ?_
          · intro w hSw; (try dsimp only at hSw); first | (go_simp; done) | (go_simp; with_reducible rfl) | (go_simp; omega) | (go_simp; intro hx; exfalso; omega)
          try simp only [Act.put, List.setIfInBounds_toArray, List.set_cons_zero, List.set_cons_succ]
          refine wpAnyH_done (by kernel_rfl) ?_ _
          dsimp [Act.put]
          simp only [List.setIfInBounds_toArray, List.set_cons_zero, List.set_cons_succ]
          go_wp2_with fail
          go_roundw
          case rel => exact ⟨k + 1, q5, cap5, L ++ [⟨s, x1, x2⟩], by omega, by go_num, sl_eq (by simp), by simp; omega, okpush HOKL.out (show Consumer.Ok ⟨s, x1, x2⟩ from HSZ.out), by rw [List.length_append]; exact ho5, hnm, hne5, hcur.mono (by omega), hmov⟩
          case measure => simp [intOf] <;> omega
        refine AllReadyH.cons rfl (fun K5 hK => ?_) AllReadyH.nil
        go_simp
        go_wp2_with fail
        have hl2 := Lit.new (W := W) #[.int .i64 1, .int .i64 1, .int .i64 2, .int .i64 5, .int .i64 9] 3 (by simp [intOf]) hgw
        have hmA : W.grownBy (W.alloc (.cells #[.int .i64 1, .int .i64 1, .int .i64 2, .int .i64 5, .int .i64 9] 3)) (some g) := moved_alloc (moved_refl W g) _
        replace hown := own_moved hmA hg0 hown
        replace hnm := own_moved hmA hg0 hnm
        replace hcur := hcur.below ((Below.refl _ _).alloc (Nat.le_refl _) (.cells #[.int .i64 1, .int .i64 1, .int .i64 2, .int .i64 5, .int .i64 9] 3)); replace hmov := moved_alloc hmov (.cells #[.int .i64 1, .int .i64 1, .int .i64 2, .int .i64 5, .int .i64 9] 3)
        replace hgw := Nat.lt_of_lt_of_le hg0 hmov.size
        clear hmA
        refine hK.out _ _ (HX.out _ hnm) (fun hHeld => ?_)
        clear hK K5
        try simp only [Act.put, List.setIfInBounds_toArray, List.set_cons_zero, List.set_cons_succ]
        clear hHeld
        have hHeld := HX.out _ hnm
        generalize W.alloc (.cells #[.int .i64 1, .int .i64 1, .int .i64 2, .int .i64 5, .int .i64 9] 3) = W at *
        skip
        refine wpAnyH_ready (rs := [6]) (by kernel_rfl) (by simp) ?_
        refine AllReadyH.cons rfl (fun K5 hK => ?_) AllReadyH.nil
        go_simp
        go_wp2_with fail
        have hl1 := Lit.new (W := W) #[.int .i64 1, .int .i64 50, .int .i64 500, .int .i64 500, .int .i64 3000, .int .i64 1000000] 3 (by simp [intOf]) hgw
        have hmA : W.grownBy (W.alloc (.cells #[.int .i64 1, .int .i64 50, .int .i64 500, .int .i64 500, .int .i64 3000, .int .i64 1000000] 3)) (some g) := moved_alloc (moved_refl W g) _
        replace hown := own_moved hmA hg0 hown
        replace hnm := own_moved hmA hg0 hnm
        replace hl2 := Lit.moved hl2 hmA
        replace hcur := hcur.below ((Below.refl _ _).alloc (Nat.le_refl _) (.cells #[.int .i64 1, .int .i64 50, .int .i64 500, .int .i64 500, .int .i64 3000, .int .i64 1000000] 3)); replace hmov := moved_alloc hmov (.cells #[.int .i64 1, .int .i64 50, .int .i64 500, .int .i64 500, .int .i64 3000, .int .i64 1000000] 3)
        replace hgw := Nat.lt_of_lt_of_le hg0 hmov.size
        clear hmA
        refine hK.out _ _ (HX.out _ hnm) (fun hHeld => ?_)
        clear hK K5
        try simp only [Act.put, List.setIfInBounds_toArray, List.set_cons_zero, List.set_cons_succ]
        clear hHeld
        have hHeld := HX.out _ hnm
        generalize W.alloc (.cells #[.int .i64 1, .int .i64 50, .int .i64 500, .int .i64 500, .int .i64 3000, .int .i64 1000000] 3) = W at *
        skip
        refine wpAnyH_ready (rs := [7]) (by kernel_rfl) (by simp) ?_
        refine AllReadyH.cons rfl (fun K5 hK => ?_) AllReadyH.nil
        go_simp
        go_wp2_with fail
        refine (lit_among #[.int .i64 1, .int .i64 50, .int .i64 500, .int .i64 500, .int .i64 3000, .int .i64 1000000] hl1 (by rfl) (by omega) (by omega) hcur (by omega)).mono ?_
        rintro e W ⟨x1, rfl, hx1, hcur, hmA⟩
        go_wp2_with fail
        replace hown := own_moved hmA hg0 hown
        replace hnm := own_moved hmA hg0 hnm
        replace hl2 := Lit.moved hl2 hmA
        replace hl1 := Lit.moved hl1 hmA
        replace hmov := moved_trans hmov hmA; replace hgw := Nat.lt_of_lt_of_le hg0 hmov.size; clear hmA
        refine hK.out _ _ (HX.out _ hnm) (fun hHeld => ?_)
        clear hK K5
        refine wpAnyH_ready (rs := [10]) (by kernel_rfl) (by simp) ?_
        refine AllReadyH.cons rfl (fun K5 hK => ?_) AllReadyH.nil
        go_simp
        go_wp2_with fail
        refine (lit_among #[.int .i64 1, .int .i64 1, .int .i64 2, .int .i64 5, .int .i64 9] hl2 (by rfl) (by omega) (by omega) hcur (by omega)).mono ?_
        rintro e W ⟨x2, rfl, hx2, hcur, hmA⟩
        go_wp2_with fail
        replace hown := own_moved hmA hg0 hown
        replace hnm := own_moved hmA hg0 hnm
        replace hl2 := Lit.moved hl2 hmA
        replace hl1 := Lit.moved hl1 hmA
        replace hmov := moved_trans hmov hmA; replace hgw := Nat.lt_of_lt_of_le hg0 hmov.size; clear hmA
        refine hK.out _ _ (HX.out _ hnm) (fun hHeld => ?_)
        clear hK K5
        refine wpAnyH_take (i := 11) (v := .agg #[.string s, .int .i64 x1, .int .i64 x2]) rfl (by kernel_rfl) (by kernel_rfl) (by kernel_rfl) (fun _ _ _ h => h) (Or.inl ⟨by rfl, ?_⟩) (by assumption) ?_
        · intro w hSw; (try dsimp only at hSw); first | (go_simp; done) | (go_simp; with_reducible rfl) | (go_simp; omega) | (go_simp; intro hx; exfalso; omega)
        try simp only [Act.put, List.setIfInBounds_toArray, List.set_cons_zero, List.set_cons_succ]
        refine wpAnyH_ready (rs := [12]) (by kernel_rfl) (by simp) ?_
        refine AllReadyH.cons rfl (fun K5 hK => ?_) AllReadyH.nil
        go_simp
        go_wp2_with fail
        refine hK.out _ _ (HX.out _ (World.ownsRow.alloc hnm _)) (fun hHeld => ?_)
        clear hK K5
        refine wpAnyH_ready (rs := [13]) (by kernel_rfl) (by simp) ?_
        refine AllReadyH.cons rfl (fun K5 hK => ?_) AllReadyH.nil
        refine step_push2 W rfl (.tmp 18) (.tmp 30) 28 65 rfl Try.underlying28 Consumer.infoE rfl (by omega) (by omega) Consumer.enc_len Consumer.enc_one w.heap.size _ cap L ⟨s, x1, x2⟩ _ rfl rfl _ rfl rfl hown hmov.size (by omega) ?_
        intro q5 cap5 w5 ho5 hb5 hg5 hq5
        replace hcur := hcur.step hg0 hb5; replace hmov := moved_step hmov hb5
        have hne5 := push_ne hnm hq5 hne
        replace hnm := push_keep hnm hg5 hne
        refine hK.out _ _ (HX.out _ hnm) (fun hHeld => ?_)
        clear hK K5
        refine wpAnyH_take (i := 14) (v := .slice (some ⟨q5, 0, none⟩) (L.length + 1) cap5) rfl (by kernel_rfl) (by kernel_rfl) (by kernel_rfl) (fun _ _ _ h => h) (Or.inl ⟨by rfl, ?_⟩) (by assumption) ?_
        · intro w hSw; (try dsimp only at hSw); first | (go_simp; done) | (go_simp; with_reducible rfl) | (go_simp; omega) | (go_simp; intro hx; exfalso; omega)
        try simp only [Act.put, List.setIfInBounds_toArray, List.set_cons_zero, List.set_cons_succ]
        refine wpAnyH_done (by kernel_rfl) ?_ _
        dsimp [Act.put]
        simp only [List.setIfInBounds_toArray, List.set_cons_zero, List.set_cons_succ]
        go_wp2_with fail
        go_roundw
        case rel => exact ⟨k + 1, q5, cap5, L ++ [⟨s, x1, x2⟩], by omega, by go_num, sl_eq (by simp), by simp; omega, okpush HOKL.out (show Consumer.Ok ⟨s, x1, x2⟩ from HSZ.out), by rw [List.length_append]; exact ho5, hnm, hne5, hcur.mono (by omega), hmov⟩
        case measure => simp [intOf] <;> omega
    · obtain rfl : k = 6 := by omega
      clear hnm hne
      by_cases hz0 : L.length = 0
      · obtain rfl := List.eq_nil_of_length_eq_zero hz0
        go_wp2_with fail
        go_ret
        exact ⟨_, _, _, _, rfl, rfl, hown, ⟨hok, by simp⟩, hcur.mono (by omega), hmov⟩
      · have hzb : ((L.length : Int) == 0) = false := beq_eq_false_iff_ne.2 (by omega)
        go_wp2_with fail
        refine (pick_any B g _ _ _ (by assumption) (by omega) (by omega) (by omega)).mono ?_
        rintro e w1 ⟨k, rfl, hx_k, hcur, hm1⟩
        have hown := own_moved hm1 hg0 hown
        have hmov := moved_trans hmov hm1; clear hm1
        have hkL : k < L.length := by omega
        have hki : (k : Int) < (L.length : Int) := by omega
        have hp0 := own_geq hown
        have hgk := List.getElem?_eq_getElem hkL
        have y0 := own_cell hown (flat_get Consumer.enc_len L k _ hgk 0 _ rfl)
        have y1 := own_cell hown (flat_get Consumer.enc_len L k _ hgk 1 _ rfl)
        have y2 := own_cell hown (flat_get Consumer.enc_len L k _ hgk 2 _ rfl)
        rw [Nat.add_zero] at y0
        have hco := hok _ (List.getElem_mem hkL)
        generalize L[k] = c at *
        clear hgk hx_k
        go_upto_region 12 with fail
        have hb1 : Below w1.heap.size w1 (w1.alloc (.cells #[.string c.name, .int .i64 c.watts, .int .i64 c.rank] 65)) := (Below.refl _ _).alloc (Nat.le_refl _) _
        have hX : Own Consumer.enc 3 65 w.heap.size (w1.alloc (.cells #[.string c.name, .int .i64 c.watts, .int .i64 c.rank] 65)) (.slice (some ⟨w1.heap.size, 0, none⟩) 1 1) [c] := World.ownsRow_lit (e := 65) (size := 3) w1 #[.string c.name, .int .i64 c.watts, .int .i64 c.rank] 1 hmov.size (by decide) rfl
        have hle : w.heap.size ≤ w1.heap.size := hmov.size
        have hnp : q ≠ w1.heap.size := Nat.ne_of_lt (hown.lt q rfl).2
        have hown := Own.below hown hb1; have hcur := hcur.below hb1; have hmov := moved_then hmov hb1
        clear hb1 y0 y1 y2
        generalize (w1.alloc (.cells #[.string c.name, .int .i64 c.watts, .int .i64 c.rank] 65)) = wx at *
        generalize w1.heap.size = px at *
        have HOKL := hide hok; have HCO := hide hco; clear hok hco
        go_wp2_with fail
        refine (pick_any B g _ _ _ (by assumption) (by omega) (by omega) (by omega)).mono ?_
        rintro e w1 ⟨j, rfl, hj, hcur, hm1⟩
        obtain ⟨y, hy⟩ : ∃ y : Int, y = (j : Int) := ⟨_, rfl⟩
        have hown := own_moved hm1 hg0 hown
        have hX := own_moved hm1 hg0 hX
        have hmov := moved_trans hmov hm1
        rw [← hy]; clear hm1 hj hy
        by_cases y0 : y = 0
        · subst y0
          obtain ⟨c0, hc0⟩ : ∃ c0, L[0]? = some c0 := ⟨_, List.getElem?_eq_getElem (by omega)⟩
          have y0 := own_cell hown (flat_get Consumer.enc_len L 0 c0 hc0 0 _ rfl)
          simp only [Nat.zero_mul, Nat.add_zero] at y0
          have hl0 : (0 : Int) < (L.length : Int) := by omega
          have HS0 := hide (show c0.name.size ≤ maxLen from HOKL.out c0 (List.mem_of_getElem? hc0)); clear hc0
          go_wp2_with fail
          refine (of_lit B g _ _ _ _ _ _ (by simp [strOf]) (by rfl) (by simp) (by omega) (by omega) (by assumption) (by omega)).mono ?_
          rintro e w1 ⟨y, rfl, hx_y, hcur, hm1⟩
          have hown := own_moved hm1 hg0 hown; have hX := own_moved hm1 hg0 hX
          have hmov := moved_trans hmov hm1; clear hm1 y0
          have HY := hide (show y.size ≤ maxLen by
            simp only [strsOf, strOf, List.map_cons, List.map_nil, List.mem_cons, List.not_mem_nil, or_false] at hx_y
            have := HS0.out
            rcases hx_y with rfl | rfl | rfl
            · unfold maxLen; show 0 ≤ _; decide
            · unfold maxLen; show 1 ≤ _; decide
            · exact this)
          clear hx_y
          obtain ⟨u0, u1, u2⟩ := Consumer.one_cells hX
          have hfz := Own.frozen_ hX rfl 0
          have hbs := (Below.refl w.heap.size w1).setCell (p := ⟨px, 0, none⟩) hle (.string y)
          have hown := own_grown hown (moved_set (g := px) (j := 0) (u := .string y) (moved_refl w1 px)) (.inl (by intro e; injection e with e; exact hnp e))
          have hcur := hcur.step hg0 hbs; have hmov := moved_step hmov hbs; clear hbs
          go_wp2_with (first | (with_reducible show wpList _ _ _ (⟨none, _, _, _, _, _⟩ :: _) _ _; refine wpList_store_mid rfl 65 (.tmp 89) (.tmp 88) rfl q (k * 3) _ rfl rfl (Own.there_ hown rfl (by simp <;> omega)) (by kernel_rfl) (by simp [Value.oneCell']) ?_))
          have hset := Own.set_ Consumer.enc_len hown rfl (k := k) (by omega) (⟨y, c.watts, c.rank⟩ : Consumer)
          have hbs := below_setCells q hp0 (Consumer.enc ⟨y, c.watts, c.rank⟩) (k * 3) _ (Below.refl w.heap.size (w1.setCell ⟨px, 0, none⟩ (.string y)))
          have hcs := hcur.step hg0 hbs; have hms := moved_step hmov hbs; clear hbs
          go_ret
          exact ⟨_, _, _, _, rfl, by rw [List.length_set], hset, ⟨okset HOKL.out (c := ⟨y, c.watts, c.rank⟩) HY.out, by rw [List.length_set]; omega⟩, hcs.mono (by omega), hms⟩
        by_cases y1 : y = 1
        · subst y1
          go_wp2_with fail
          refine (among_lit B g _ _ _ _ _ _ (by simp [intOf]) (by rfl) (by first | rfl | simp) (by omega) (by omega) (by assumption) (by omega)).mono ?_
          rintro e w1 ⟨y, rfl, hx_y, hcur, hm1⟩
          have hown := own_moved hm1 hg0 hown
          have hX := own_moved hm1 hg0 hX
          have hmov := moved_trans hmov hm1; clear hm1
          obtain ⟨u0, u1, u2⟩ := Consumer.one_cells hX
          have hfz := Own.frozen_ hX rfl 1
          have hbs := (Below.refl w.heap.size w1).setCell (p := ⟨px, 1, none⟩) hle (.int .i64 y)
          have hown := own_grown hown (moved_set (g := px) (j := 1) (u := .int .i64 y) (moved_refl w1 px)) (.inl (by intro e; injection e with e; exact hnp e))
          have hcur := hcur.step hg0 hbs; have hmov := moved_step hmov hbs; clear hbs
          go_wp2_with (first | (with_reducible show wpList _ _ _ (⟨none, _, _, _, _, _⟩ :: _) _ _; refine wpList_store_mid rfl 65 (.tmp 89) (.tmp 88) rfl q (k * 3) _ rfl rfl (Own.there_ hown rfl (by simp <;> omega)) (by kernel_rfl) (by simp [Value.oneCell']) ?_))
          have hset := Own.set_ Consumer.enc_len hown rfl (k := k) (by omega) (⟨c.name, y, c.rank⟩ : Consumer)
          have hbs := below_setCells q hp0 (Consumer.enc ⟨c.name, y, c.rank⟩) (k * 3) _ (Below.refl w.heap.size (w1.setCell ⟨px, 1, none⟩ (.int .i64 y)))
          have hcs := hcur.step hg0 hbs; have hms := moved_step hmov hbs; clear hbs
          go_ret
          exact ⟨_, _, _, _, rfl, by rw [List.length_set], hset, ⟨okset HOKL.out (c := ⟨c.name, y, c.rank⟩) HCO.out, by rw [List.length_set]; omega⟩, hcs.mono (by omega), hms⟩
        by_cases y2 : y = 2
        · subst y2
          go_wp2_with fail
          refine (among_lit B g _ _ _ _ _ _ (by simp [intOf]) (by rfl) (by first | rfl | simp) (by omega) (by omega) (by assumption) (by omega)).mono ?_
          rintro e w1 ⟨y, rfl, hx_y, hcur, hm1⟩
          have hown := own_moved hm1 hg0 hown
          have hX := own_moved hm1 hg0 hX
          have hmov := moved_trans hmov hm1; clear hm1
          obtain ⟨u0, u1, u2⟩ := Consumer.one_cells hX
          have hfz := Own.frozen_ hX rfl 2
          have hbs := (Below.refl w.heap.size w1).setCell (p := ⟨px, 2, none⟩) hle (.int .i64 y)
          have hown := own_grown hown (moved_set (g := px) (j := 2) (u := .int .i64 y) (moved_refl w1 px)) (.inl (by intro e; injection e with e; exact hnp e))
          have hcur := hcur.step hg0 hbs; have hmov := moved_step hmov hbs; clear hbs
          go_wp2_with (first | (with_reducible show wpList _ _ _ (⟨none, _, _, _, _, _⟩ :: _) _ _; refine wpList_store_mid rfl 65 (.tmp 89) (.tmp 88) rfl q (k * 3) _ rfl rfl (Own.there_ hown rfl (by simp <;> omega)) (by kernel_rfl) (by simp [Value.oneCell']) ?_))
          have hset := Own.set_ Consumer.enc_len hown rfl (k := k) (by omega) (⟨c.name, c.watts, y⟩ : Consumer)
          have hbs := below_setCells q hp0 (Consumer.enc ⟨c.name, c.watts, y⟩) (k * 3) _ (Below.refl w.heap.size (w1.setCell ⟨px, 2, none⟩ (.int .i64 y)))
          have hcs := hcur.step hg0 hbs; have hms := moved_step hmov hbs; clear hbs
          go_ret
          exact ⟨_, _, _, _, rfl, by rw [List.length_set], hset, ⟨okset HOKL.out (c := ⟨c.name, c.watts, y⟩) HCO.out, by rw [List.length_set]; omega⟩, hcs.mono (by omega), hms⟩
        by_cases y3 : y = 3
        · subst y3
          go_wp2_with fail
          go_loopw [3] (fun l wr => ∃ (A : Option Addr) (cap z : Nat) (L : List Consumer), l = .slice A z cap ∧ L.length = z ∧ k < z ∧ z ≤ 9 ∧ (∀ c ∈ L, c.Ok) ∧ Own Consumer.enc 3 65 w.heap.size wr (.slice A z cap) L ∧ Own Consumer.enc 3 65 w.heap.size wr (.slice (some ⟨px, 0, none⟩) 1 1) [c] ∧ (∀ q, (Value.slice A z cap).ownBlock = some q → q ≠ px) ∧ Cur B wr g (K + 150 + z) ∧ w.grownBy wr (some g)) (fun l _ => 20 - lenOf l)
          case atStart => exact ⟨_, _, _, L, rfl, rfl, hkL, by omega, HOKL.out, hown, hX, (fun q2 hq => by have h2 : some q = some q2 := hq; injection h2 with h2; omega), hcur.mono (by omega), hmov⟩
          case round =>
            clear hown hcur hmov HOKL hX hnp hp0 hkL hki hzb hz0 hll
            obtain ⟨A, cap, z, L, rfl, hL, hkz, hz2, hok, hown, hX, hnq, hcur, hmov⟩ := hrel
            have HOKL := hide hok; clear hok
            go_wp2_with fail
            refine (pick_any B g _ _ _ (by assumption) (by omega) (by omega) (by omega)).mono ?_
            rintro e w1 ⟨j2, rfl, hx_j2, hcur, hm1⟩
            have hown := own_moved hm1 hg0 hown
            have hX := own_moved hm1 hg0 hX
            have hmov := moved_trans hmov hm1; clear hm1
            by_cases hlt2 : (z : Int) < 8 + (j2 : Int)
            · subst hL
              have hpxb := (hX.lt px rfl).2
              have hcv : ∀ W : World, (convert 34 9 (.slice (some ⟨W.heap.size, 0, none⟩) 1 1)).run Try.prog (W.alloc (.cells #[.int .u8 (97 + (L.length : Int))] 5)) = .ok (.string ⟨#[UInt8.ofNat (97 + L.length)]⟩) (W.alloc (.cells #[.int .u8 (97 + (L.length : Int))] 5)) := fun W => by
                refine run_convert_bytes_back _ 34 9 5 ⟨W.heap.size, 0, none⟩ 1 [UInt8.ofNat (97 + L.length)] Try.underlying34 Try.underlying5 Try.underlying9 (fun j hj => ?_)
                obtain rfl : j = 0 := by simpa using hj
                have hv : ((UInt8.ofNat (97 + L.length)).toNat : Int) = 97 + (L.length : Int) := by rw [UInt8.toNat_ofNat']; omega
                rw [Addr.add_mid]
                refine (cell_new W _ _ _ 0 _ rfl rfl).trans ?_
                first | (simp [hv]; done) | (simp [hv]; omega)
              have HPX := hide hpxb; clear hpxb
              go_wp2_with (at_builtin; refine wpList_push2 _ rfl (.tmp 76) (.tmp 84) 28 65 rfl Try.underlying28 Consumer.infoE rfl (by omega) (by omega) Consumer.enc_len Consumer.enc_one w.heap.size _ _ L ⟨_, 5, 3⟩ _ rfl rfl _ rfl (by first | rfl | simp) (World.ownsRow.alloc hown (.cells #[.int .u8 (97 + (L.length : Int))] 5)) (by have := hmov.size; simp; omega) (by omega) ?_; intro q5 cap5 w5 ho5 hb5 hg5 hq5)
              have hX5 := own_grown (World.ownsRow.alloc (World.ownsRow.alloc hX _) _) hg5 (.inl (by intro e; exact hnq px e.symm rfl))
              have hba1 : Below w1.heap.size w1 (w1.alloc (.cells #[.int .u8 (97 + (L.length : Int))] 5)) := (Below.refl _ _).alloc (Nat.le_refl _) _
              go_roundw
              case rel => exact ⟨_, _, _, _, rfl, by simp, by omega, by omega, okpush HOKL.out (c := ⟨_, 5, 3⟩) (by show ByteArray.size _ ≤ maxLen; unfold maxLen; simp [ByteArray.size]), ho5, hX5, (fun q2 hq => by have h2 : some q5 = some q2 := hq; injection h2 with h2; subst h2; rcases hq5 with h3 | h3; exact hnq q5 h3; have := HPX.out; simp at h3; omega), ((hcur.below hba1).step hg0 hb5).mono (by omega), moved_step (moved_then hmov hba1) hb5⟩
              case measure => simp [lenOf] <;> omega
            · subst hL
              obtain ⟨q, rfl⟩ := own_some hown (by omega)
              have hp0 := own_geq hown
              have hki : (k : Int) < (L.length : Int) := by omega
              obtain ⟨u0, u1, u2⟩ := Consumer.one_cells hX
              go_wp2_with (first | (with_reducible show wpList _ _ _ (⟨none, _, _, _, _, _⟩ :: _) _ _; refine wpList_store_mid rfl 65 (.tmp 89) (.tmp 88) rfl q (k * 3) _ rfl rfl (Own.there_ hown rfl (by simp <;> omega)) (by kernel_rfl) (by simp [Value.oneCell']) ?_))
              have hset := Own.set_ Consumer.enc_len hown rfl (k := k) (by omega) (c : Consumer)
              have hbs := below_setCells q hp0 (Consumer.enc c) (k * 3) _ (Below.refl w.heap.size w1)
              have hcs := hcur.step hg0 hbs; have hms := moved_step hmov hbs; clear hbs
              go_ret
              exact ⟨_, _, _, _, rfl, by rw [List.length_set], hset, ⟨okset HOKL.out (c := c) HCO.out, by rw [List.length_set]; omega⟩, hcs.mono (by omega), hms⟩
        have e0 : (y == 0) = false := by simpa using y0
        have e1 : (y == 1) = false := by simpa using y1
        have e2 : (y == 2) = false := by simpa using y2
        have e3 : (y == 3) = false := by simpa using y3
        clear y0 y1 y2 y3
        obtain ⟨u0, u1, u2⟩ := Consumer.one_cells hX
        go_wp2_with (first | (with_reducible show wpList _ _ _ (⟨none, _, _, _, _, _⟩ :: _) _ _; refine wpList_store_mid rfl 65 (.tmp 89) (.tmp 88) rfl q (k * 3) _ rfl rfl (Own.there_ hown rfl (by simp <;> omega)) (by kernel_rfl) (by simp [Value.oneCell']) ?_))
        have hset := Own.set_ Consumer.enc_len hown rfl (k := k) (by omega) (c : Consumer)
        have hbs := below_setCells q hp0 (Consumer.enc c) (k * 3) _ (Below.refl w.heap.size w1)
        have hcs := hcur.step hg0 hbs; have hms := moved_step hmov hbs; clear hbs
        go_ret
        exact ⟨_, _, _, _, rfl, by rw [List.length_set], hset, ⟨okset HOKL.out (c := c) HCO.out, by rw [List.length_set]; omega⟩, hcs.mono (by omega), hms⟩
end Go.Proofs.Ytafefnpmgpmjpaa
