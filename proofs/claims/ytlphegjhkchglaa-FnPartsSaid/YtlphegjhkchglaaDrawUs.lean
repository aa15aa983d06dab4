/- The drawers of chapter 23: uses. -/
import Derived.Test.YtlphegjhkchglaaDrawPt
import Derived.Test.YtlphegjhkchglaaLibUse
import Derived.Deep.DeepCutAuto
import Derived.Deep.RegionHeldLaw
namespace Go.Proofs.Ytlphegjhkchglaa
open Go Go.RowKit
set_option linter.unusedVariables false
set_option linter.unusedSimpArgs false
def Lit (g : Nat) (X : World) (p : Nat) (L : List Int) : Prop := p ≠ g ∧ p < X.heap.size ∧ ∀ i x, L[i]? = some x → X.cell? ⟨p, 0 + i, none⟩ = some (.int .i64 x)
theorem Lit.new {g : Nat} {W : World} (cs : Array Value) (T : TypeId) (hcs : ∀ v ∈ cs.toList, v = .int .i64 (intOf v)) (hg : g < W.heap.size) : Lit g (W.alloc (.cells cs T)) W.heap.size (intsOf cs) :=
  ⟨Nat.ne_of_gt hg, by simp, fun i x hx => lit_at cs hcs W T i x hx⟩
theorem Lit.moved {g p : Nat} {W W2 : World} {L : List Int} (h : Lit g W p L) (hm : W.grownBy W2 (some g)) : Lit g W2 p L :=
  ⟨h.1, Nat.lt_of_lt_of_le h.2.1 hm.size, fun i x hx => moved_cell hm h.1 (h.2.2 i x hx)⟩
theorem moved_alloc {a b : World} {g : Nat} (h : a.grownBy b (some g)) (o : Obj) : a.grownBy (b.alloc o) (some g) := moved_then h ((Below.refl _ _).alloc (Nat.le_refl _) _)
theorem moved_drew {a b : World} {g : Nat} (h : a.grownBy b (some g)) : a.grownBy b.drew (some g) := moved_then h (Below.refl _ _).drew
theorem lit_among {B g K p n : Nat} {W : World} (cs : Array Value) (h : Lit g W p (intsOf cs)) (hn : cs.size = n) (h0 : 0 < n) (hn2 : n ≤ 200) (hc : Cur B W g K) (hK : K ≤ 1000000000) :
    Calls Try.prog 72 #[.pointer (some ⟨g, 0, none⟩), .slice (some ⟨p, 0, none⟩) n n] W (AmongPost B g (K + 1) W (intsOf cs)) := by
  have hl : (intsOf cs).length = n := by simp [intsOf, hn]
  have h2 := among_any B g K p 0 n (intsOf cs) W hc hK (by omega) (by omega) h.1 h.2.2
  rwa [hl] at h2
theorem okpushU {L : List Use} {c : Use} (h : ∀ x ∈ L, x.Ok) (hc : c.Ok) : ∀ x ∈ L ++ [c], x.Ok := fun x hx => by
  rcases List.mem_append.1 hx with h1 | h1
  · exact h x h1
  · simp at h1; subst h1; exact hc
def GoodUs (L : List Use) : Prop := (∀ c ∈ L, c.Ok) ∧ L.length ≤ 21
theorem part_names {w : World} {lo n cap g p : Nat} {L : List Part} (ho : Own Part.enc 5 62 lo w (.slice (some ⟨p, 0, none⟩) n cap) L) (hL : L.length = n) (hgl : g < lo) {X : World} (h : w.grownBy X (some g)) :
    ∀ j c, L[j]? = some c → X.cell? ⟨p, j * 5, none⟩ = some (.string c.name) := fun j c hc => by
  subst hL
  have h1 := own_moved h hgl ho
  have y := own_cell h1 (flat_get Part.enc_len L j c hc 0 _ rfl)
  rwa [Nat.add_zero] at y
set_option maxRecDepth 100000 in
set_option maxHeartbeats 8000000 in
theorem uses_any (B g K n cap lo : Nat) (Lp : List Part) (A : Option Addr) (w : World) (hL : Lp.length = n) (hn : n ≤ 20) (hok0 : ∀ c ∈ Lp, c.Ok) (ho : Own Part.enc 5 62 lo w (.slice A n cap) Lp) (hgl : g < lo) (h0 : Cur B w g K) (hK : K ≤ 90000) :
    Calls Try.prog 71 #[.pointer (some ⟨g, 0, none⟩), .slice A n cap] w (ListPost Use.enc 3 60 GoodUs B g (K + 300) w) := by
  have hg0 := h0.lt
  have hb0 : Below w.heap.size w (w.alloc (.cells #[] 60)) := (Below.refl _ _).alloc (Nat.le_refl _) _
  have hown : Own Use.enc 3 60 w.heap.size (w.alloc (.cells #[] 60)) (.slice (some ⟨w.heap.size, 0, none⟩) 0 0) ([] : List Use) := own_empty (Nat.le_refl _)
  have hmov : w.grownBy (w.alloc (.cells #[] 60)) (some g) := moved_below hb0
  have hcur := h0.below hb0
  have HOK := hide hok0; have HO := hide ho
  have HLn := hide hL
  clear hb0 h0 hok0 ho hL
  go_enter Try.func71, Try.ntmps71
  go_wp2_with fail
  refine (pick_any B g _ _ _ (by assumption) (by omega) (by omega) (by omega)).mono ?_
  rintro e w1 ⟨n0, rfl, hn0, hcur, hm1⟩
  replace hown := own_moved hm1 hg0 hown; replace hmov := moved_trans hmov hm1; clear hm1
  go_wp2_with fail
  go_loopw [6, 5] (fun i l wr => ∃ (k q cp : Nat) (L : List Use), k ≤ 6 ∧ i = .int .i64 k ∧ l = .slice (some ⟨q, 0, none⟩) L.length cp ∧ L.length + k ≤ 6 ∧ (∀ c ∈ L, c.Ok) ∧ Own Use.enc 3 60 w.heap.size wr (.slice (some ⟨q, 0, none⟩) L.length cp) L ∧ Cur B wr g (K + 10 + 4 * L.length) ∧ w.grownBy wr (some g)) (fun i _ _ => (intOf i).toNat)
  case atStart => exact ⟨n0, _, _, [], by omega, rfl, rfl, by (first | (simp; done) | (simp; omega)), (fun c hc => by cases hc), hown, hcur.mono (by first | (simp; done) | (simp; omega)), hmov⟩
  case round =>
    clear hown hmov hcur hn0
    obtain ⟨k, q, cp, L, hk, rfl, rfl, hll, hok, hown, hcur, hmov⟩ := hrel
    by_cases hgo : 0 < k ∧ 0 < n
    · have hki : (0 : Int) < (k : Int) := by omega
      have hni : (0 : Int) < (n : Int) := by omega
      obtain ⟨p, rfl⟩ := own_some HO.out (by have := HLn.out; omega)
      have HX := hide (fun (X : World) (h : w.grownBy X (some g)) => part_names HO.out HLn.out hgl h)
      have HOKL := hide hok; clear hok
      go_wp2_with fail
      obtain ⟨w1, hw1⟩ : ∃ W, W = wr := ⟨_, rfl⟩
      subst hw1
      refine wp_region_held_drew (S := (fun w' => ∀ j c, Lp[j]? = some c → w'.cell? ⟨p, j * 5, none⟩ = some (.string c.name))) (by kernel_rfl) ?_ (fun hHeld => ?_)
      · exact HX.out _ (moved_drew hmov)
      replace hown := own_moved (moved_drew (moved_refl w1 g)) hg0 hown
      replace hcur := hcur.below (Below.refl _ _).drew; replace hmov := moved_drew hmov
      have hgw := Nat.lt_of_lt_of_le hg0 hmov.size
      generalize w1.drew = W at *
      refine wpAnyH_take (i := 0) (v := .slice (some ⟨q, 0, none⟩) L.length cp) rfl (by kernel_rfl) (by kernel_rfl) (by kernel_rfl) (fun _ _ _ h => h) (Or.inl ⟨by rfl, ?_⟩) (by assumption) ?_
      · intro w hSw; (try dsimp only at hSw); first | (go_simp; done) | (go_simp; with_reducible rfl) | (go_simp; omega) | (go_simp; intro hx; exfalso; omega)
      try simp only [Act.put, List.setIfInBounds_toArray, List.set_cons_zero, List.set_cons_succ]
      refine wpAnyH_take (i := 1) (v := .slice (some ⟨p, 0, none⟩) n cap) rfl (by kernel_rfl) (by kernel_rfl) (by kernel_rfl) (fun _ _ _ h => h) (Or.inl ⟨by rfl, ?_⟩) (by assumption) ?_
      · intro w hSw; (try dsimp only at hSw); first | (go_simp; done) | (go_simp; with_reducible rfl) | (go_simp; omega) | (go_simp; intro hx; exfalso; omega)
      try simp only [Act.put, List.setIfInBounds_toArray, List.set_cons_zero, List.set_cons_succ]
      refine wpAnyH_take (i := 2) (v := .pointer (some ⟨g, 0, none⟩)) rfl (by kernel_rfl) (by kernel_rfl) (by kernel_rfl) (fun _ _ _ h => h) (Or.inl ⟨by rfl, ?_⟩) (by assumption) ?_
      · intro w hSw; (try dsimp only at hSw); first | (go_simp; done) | (go_simp; with_reducible rfl) | (go_simp; omega) | (go_simp; intro hx; exfalso; omega)
      try simp only [Act.put, List.setIfInBounds_toArray, List.set_cons_zero, List.set_cons_succ]
      refine wpAnyH_take (i := 3) (v := .slice (some ⟨p, 0, none⟩) n cap) rfl (by kernel_rfl) (by kernel_rfl) (by kernel_rfl) (fun _ _ _ h => h) (Or.inl ⟨by rfl, ?_⟩) (by assumption) ?_
      · intro w hSw; (try dsimp only at hSw); first | (go_simp; done) | (go_simp; with_reducible rfl) | (go_simp; omega) | (go_simp; intro hx; exfalso; omega)
      try simp only [Act.put, List.setIfInBounds_toArray, List.set_cons_zero, List.set_cons_succ]
      refine wpAnyH_take (i := 4) (v := .int .i64 n) rfl (by kernel_rfl) (by kernel_rfl) (by kernel_rfl) (fun _ _ _ h => h) (Or.inl ⟨by rfl, ?_⟩) (by assumption) ?_
      · intro w hSw; (try dsimp only at hSw); first | (go_simp; done) | (go_simp; with_reducible rfl) | (go_simp; omega) | (go_simp; intro hx; exfalso; omega)
      try simp only [Act.put, List.setIfInBounds_toArray, List.set_cons_zero, List.set_cons_succ]
      refine wpAnyH_take (i := 9) (v := .pointer (some ⟨g, 0, none⟩)) rfl (by kernel_rfl) (by kernel_rfl) (by kernel_rfl) (fun _ _ _ h => h) (Or.inl ⟨by rfl, ?_⟩) (by assumption) ?_
      · intro w hSw; (try dsimp only at hSw); first | (go_simp; done) | (go_simp; with_reducible rfl) | (go_simp; omega) | (go_simp; intro hx; exfalso; omega)
      try simp only [Act.put, List.setIfInBounds_toArray, List.set_cons_zero, List.set_cons_succ]
      refine wpAnyH_take (i := 12) (v := .pointer (some ⟨g, 0, none⟩)) rfl (by kernel_rfl) (by kernel_rfl) (by kernel_rfl) (fun _ _ _ h => h) (Or.inl ⟨by rfl, ?_⟩) (by assumption) ?_
      · intro w hSw; (try dsimp only at hSw); first | (go_simp; done) | (go_simp; with_reducible rfl) | (go_simp; omega) | (go_simp; intro hx; exfalso; omega)
      try simp only [Act.put, List.setIfInBounds_toArray, List.set_cons_zero, List.set_cons_succ]
      refine wpAnyH_ready (rs := [5, 10, 13]) (by kernel_rfl) (by simp) ?_
      refine AllReadyH.cons rfl (fun K5 hK => ?_) ?_
      · go_simp
        go_wp2_with fail
        refine (pick_any B g _ _ _ hcur (by omega) (by omega) (by omega)).mono ?_
        rintro e W ⟨j, rfl, hj, hcur, hmA⟩
        go_wp2_with fail
        replace hown := own_moved hmA hg0 hown
        replace hmov := moved_trans hmov hmA; replace hgw := Nat.lt_of_lt_of_le hg0 hmov.size; clear hmA
        refine hK.out _ _ (HX.out _ hmov) (fun hHeld => ?_)
        clear hK K5
        have hj2 : j < Lp.length := by have := HLn.out; omega
        have hji : (j : Int) < (n : Int) := by have := HLn.out; omega
        obtain ⟨c, hcj⟩ : ∃ c, Lp[j]? = some c := ⟨_, List.getElem?_eq_getElem hj2⟩
        have HCJ := hide hcj; clear hcj hj hj2
        refine wpAnyH_take (i := 6) (v := .pointer (some ⟨p, j * 5, none⟩)) rfl (by kernel_rfl) (by kernel_rfl) (by kernel_rfl) (fun _ _ _ h => h) (Or.inl ⟨by rfl, ?_⟩) (by assumption) ?_
        · intro w hSw; (try dsimp only at hSw); first | (go_simp; done) | (go_simp; with_reducible rfl) | (go_simp; omega) | (go_simp; intro hx; exfalso; omega)
        try simp only [Act.put, List.setIfInBounds_toArray, List.set_cons_zero, List.set_cons_succ]
        refine wpAnyH_take (i := 7) (v := .pointer (some ⟨p, j * 5, none⟩)) rfl (by kernel_rfl) (by kernel_rfl) (by kernel_rfl) (fun _ _ _ h => h) (Or.inl ⟨by rfl, ?_⟩) (by assumption) ?_
        · intro w hSw; (try dsimp only at hSw); first | (go_simp; done) | (go_simp; with_reducible rfl) | (go_simp; omega) | (go_simp; intro hx; exfalso; omega)
        try simp only [Act.put, List.setIfInBounds_toArray, List.set_cons_zero, List.set_cons_succ]
        refine wpAnyH_take (i := 8) (v := .string c.name) rfl (by kernel_rfl) (by kernel_rfl) (by kernel_rfl) (fun _ _ _ h => h) (Or.inl ⟨by rfl, ?_⟩) (by assumption) ?_
        · intro w hSw; (try dsimp only at hSw); have hSc := hSw j c HCJ.out; clear hSw; first | (go_simp; done) | (go_simp; with_reducible rfl) | (go_simp; omega) | (go_simp; intro hx; exfalso; omega)
        try simp only [Act.put, List.setIfInBounds_toArray, List.set_cons_zero, List.set_cons_succ]
        refine wpAnyH_ready (rs := [10, 13]) (by kernel_rfl) (by simp) ?_
        refine AllReadyH.cons rfl (fun K5 hK => ?_) ?_
        · go_simp
          go_wp2_with fail
          have hl1 := Lit.new (W := W) #[.int .i64 0, .int .i64 5, .int .i64 5, .int .i64 9, .int .i64 100, .int .i64 999] 3 (by simp [intOf]) hgw
          have hmA : W.grownBy (W.alloc (.cells #[.int .i64 0, .int .i64 5, .int .i64 5, .int .i64 9, .int .i64 100, .int .i64 999] 3)) (some g) := moved_alloc (moved_refl W g) _
          replace hown := own_moved hmA hg0 hown
          replace hcur := hcur.below ((Below.refl _ _).alloc (Nat.le_refl _) (.cells #[.int .i64 0, .int .i64 5, .int .i64 5, .int .i64 9, .int .i64 100, .int .i64 999] 3)); replace hmov := moved_alloc hmov (.cells #[.int .i64 0, .int .i64 5, .int .i64 5, .int .i64 9, .int .i64 100, .int .i64 999] 3)
          replace hgw := Nat.lt_of_lt_of_le hg0 hmov.size
          clear hmA
          refine hK.out _ _ (HX.out _ hmov) (fun hHeld => ?_)
          clear hK K5
          try simp only [Act.put, List.setIfInBounds_toArray, List.set_cons_zero, List.set_cons_succ]
          clear hHeld
          have hHeld := HX.out _ hmov
          generalize W.alloc (.cells #[.int .i64 0, .int .i64 5, .int .i64 5, .int .i64 9, .int .i64 100, .int .i64 999] 3) = W at *
          skip
          refine wpAnyH_ready (rs := [11, 13]) (by kernel_rfl) (by simp) ?_
          refine AllReadyH.cons rfl (fun K5 hK => ?_) ?_
          · go_simp
            go_wp2_with fail
            refine (lit_among #[.int .i64 0, .int .i64 5, .int .i64 5, .int .i64 9, .int .i64 100, .int .i64 999] hl1 (by rfl) (by omega) (by omega) hcur (by omega)).mono ?_
            rintro e W ⟨x1, rfl, hx1, hcur, hmA⟩
            go_wp2_with fail
            replace hown := own_moved hmA hg0 hown
            replace hl1 := Lit.moved hl1 hmA
            replace hmov := moved_trans hmov hmA; replace hgw := Nat.lt_of_lt_of_le hg0 hmov.size; clear hmA
            refine hK.out _ _ (HX.out _ hmov) (fun hHeld => ?_)
            clear hK K5
            refine wpAnyH_ready (rs := [13]) (by kernel_rfl) (by simp) ?_
            refine AllReadyH.cons rfl (fun K5 hK => ?_) AllReadyH.nil
            go_simp
            go_wp2_with fail
            have hl2 := Lit.new (W := W) #[.int .i64 1, .int .i64 2, .int .i64 3, .int .i64 6, .int .i64 100] 3 (by simp [intOf]) hgw
            have hmA : W.grownBy (W.alloc (.cells #[.int .i64 1, .int .i64 2, .int .i64 3, .int .i64 6, .int .i64 100] 3)) (some g) := moved_alloc (moved_refl W g) _
            replace hown := own_moved hmA hg0 hown
            replace hl1 := Lit.moved hl1 hmA
            replace hcur := hcur.below ((Below.refl _ _).alloc (Nat.le_refl _) (.cells #[.int .i64 1, .int .i64 2, .int .i64 3, .int .i64 6, .int .i64 100] 3)); replace hmov := moved_alloc hmov (.cells #[.int .i64 1, .int .i64 2, .int .i64 3, .int .i64 6, .int .i64 100] 3)
            replace hgw := Nat.lt_of_lt_of_le hg0 hmov.size
            clear hmA
            refine hK.out _ _ (HX.out _ hmov) (fun hHeld => ?_)
            clear hK K5
            try simp only [Act.put, List.setIfInBounds_toArray, List.set_cons_zero, List.set_cons_succ]
            clear hHeld
            have hHeld := HX.out _ hmov
            generalize W.alloc (.cells #[.int .i64 1, .int .i64 2, .int .i64 3, .int .i64 6, .int .i64 100] 3) = W at *
            skip
            refine wpAnyH_ready (rs := [14]) (by kernel_rfl) (by simp) ?_
            refine AllReadyH.cons rfl (fun K5 hK => ?_) AllReadyH.nil
            go_simp
            go_wp2_with fail
            refine (lit_among #[.int .i64 1, .int .i64 2, .int .i64 3, .int .i64 6, .int .i64 100] hl2 (by rfl) (by omega) (by omega) hcur (by omega)).mono ?_
            rintro e W ⟨x2, rfl, hx2, hcur, hmA⟩
            go_wp2_with fail
            replace hown := own_moved hmA hg0 hown
            replace hl1 := Lit.moved hl1 hmA
            replace hl2 := Lit.moved hl2 hmA
            replace hmov := moved_trans hmov hmA; replace hgw := Nat.lt_of_lt_of_le hg0 hmov.size; clear hmA
            refine hK.out _ _ (HX.out _ hmov) (fun hHeld => ?_)
            clear hK K5
            refine wpAnyH_take (i := 15) (v := .agg #[.string c.name, .int .i64 x1, .int .i64 x2]) rfl (by kernel_rfl) (by kernel_rfl) (by kernel_rfl) (fun _ _ _ h => h) (Or.inl ⟨by rfl, ?_⟩) (by assumption) ?_
            · intro w hSw; (try dsimp only at hSw); first | (go_simp; done) | (go_simp; with_reducible rfl) | (go_simp; omega) | (go_simp; intro hx; exfalso; omega)
            try simp only [Act.put, List.setIfInBounds_toArray, List.set_cons_zero, List.set_cons_succ]
            refine wpAnyH_ready (rs := [16]) (by kernel_rfl) (by simp) ?_
            refine AllReadyH.cons rfl (fun K5 hK => ?_) AllReadyH.nil
            go_simp
            go_wp2_with fail
            refine hK.out _ _ (HX.out _ (moved_alloc hmov _)) (fun hHeld => ?_)
            clear hK K5
            refine wpAnyH_ready (rs := [17]) (by kernel_rfl) (by simp) ?_
            refine AllReadyH.cons rfl (fun K5 hK => ?_) AllReadyH.nil
            refine step_push2 W rfl (.tmp 19) (.tmp 35) 42 60 rfl Try.underlying42 Use.infoE rfl (by omega) (by omega) Use.enc_len Use.enc_one w.heap.size _ cp L ⟨c.name, x1, x2⟩ _ rfl rfl _ rfl rfl hown hmov.size (by omega) ?_
            intro q5 cp5 w5 ho5 hb5 hg5 hq5
            replace hcur := hcur.step hg0 hb5; replace hmov := moved_step hmov hb5
            refine hK.out _ _ (HX.out _ hmov) (fun hHeld => ?_)
            clear hK K5
            refine wpAnyH_take (i := 18) (v := .slice (some ⟨q5, 0, none⟩) (L.length + 1) cp5) rfl (by kernel_rfl) (by kernel_rfl) (by kernel_rfl) (fun _ _ _ h => h) (Or.inl ⟨by rfl, ?_⟩) (by assumption) ?_
            · intro w hSw; (try dsimp only at hSw); first | (go_simp; done) | (go_simp; with_reducible rfl) | (go_simp; omega) | (go_simp; intro hx; exfalso; omega)
            try simp only [Act.put, List.setIfInBounds_toArray, List.set_cons_zero, List.set_cons_succ]
            refine wpAnyH_done (by kernel_rfl) ?_ _
            dsimp [Act.put]
            simp only [List.setIfInBounds_toArray, List.set_cons_zero, List.set_cons_succ]
            go_wp2_with fail
            go_roundw
            case rel => exact ⟨k - 1, q5, cp5, L ++ [⟨c.name, x1, x2⟩], by omega, by go_num, sl_eq (by simp), by simp; omega, okpushU HOKL.out (show Use.Ok ⟨c.name, x1, x2⟩ from HOK.out c (List.mem_of_getElem? HCJ.out)), by rw [List.length_append]; exact ho5, hcur.mono (by simp; omega), hmov⟩
            case measure => simp [intOf] <;> omega
          refine AllReadyH.cons rfl (fun K5 hK => ?_) AllReadyH.nil
          go_simp
          go_wp2_with fail
          have hl2 := Lit.new (W := W) #[.int .i64 1, .int .i64 2, .int .i64 3, .int .i64 6, .int .i64 100] 3 (by simp [intOf]) hgw
          have hmA : W.grownBy (W.alloc (.cells #[.int .i64 1, .int .i64 2, .int .i64 3, .int .i64 6, .int .i64 100] 3)) (some g) := moved_alloc (moved_refl W g) _
          replace hown := own_moved hmA hg0 hown
          replace hl1 := Lit.moved hl1 hmA
          replace hcur := hcur.below ((Below.refl _ _).alloc (Nat.le_refl _) (.cells #[.int .i64 1, .int .i64 2, .int .i64 3, .int .i64 6, .int .i64 100] 3)); replace hmov := moved_alloc hmov (.cells #[.int .i64 1, .int .i64 2, .int .i64 3, .int .i64 6, .int .i64 100] 3)
          replace hgw := Nat.lt_of_lt_of_le hg0 hmov.size
          clear hmA
          refine hK.out _ _ (HX.out _ hmov) (fun hHeld => ?_)
          clear hK K5
          try simp only [Act.put, List.setIfInBounds_toArray, List.set_cons_zero, List.set_cons_succ]
          clear hHeld
          have hHeld := HX.out _ hmov
          generalize W.alloc (.cells #[.int .i64 1, .int .i64 2, .int .i64 3, .int .i64 6, .int .i64 100] 3) = W at *
          skip
          refine wpAnyH_ready (rs := [11]) (by kernel_rfl) (by simp) ?_
          refine AllReadyH.cons rfl (fun K5 hK => ?_) AllReadyH.nil
          go_simp
          go_wp2_with fail
          refine (lit_among #[.int .i64 0, .int .i64 5, .int .i64 5, .int .i64 9, .int .i64 100, .int .i64 999] hl1 (by rfl) (by omega) (by omega) hcur (by omega)).mono ?_
          rintro e W ⟨x1, rfl, hx1, hcur, hmA⟩
          go_wp2_with fail
          replace hown := own_moved hmA hg0 hown
          replace hl1 := Lit.moved hl1 hmA
          replace hl2 := Lit.moved hl2 hmA
          replace hmov := moved_trans hmov hmA; replace hgw := Nat.lt_of_lt_of_le hg0 hmov.size; clear hmA
          refine hK.out _ _ (HX.out _ hmov) (fun hHeld => ?_)
          clear hK K5
          refine wpAnyH_ready (rs := [14]) (by kernel_rfl) (by simp) ?_
          refine AllReadyH.cons rfl (fun K5 hK => ?_) AllReadyH.nil
          go_simp
          go_wp2_with fail
          refine (lit_among #[.int .i64 1, .int .i64 2, .int .i64 3, .int .i64 6, .int .i64 100] hl2 (by rfl) (by omega) (by omega) hcur (by omega)).mono ?_
          rintro e W ⟨x2, rfl, hx2, hcur, hmA⟩
          go_wp2_with fail
          replace hown := own_moved hmA hg0 hown
          replace hl1 := Lit.moved hl1 hmA
          replace hl2 := Lit.moved hl2 hmA
          replace hmov := moved_trans hmov hmA; replace hgw := Nat.lt_of_lt_of_le hg0 hmov.size; clear hmA
          refine hK.out _ _ (HX.out _ hmov) (fun hHeld => ?_)
          clear hK K5
          refine wpAnyH_take (i := 15) (v := .agg #[.string c.name, .int .i64 x1, .int .i64 x2]) rfl (by kernel_rfl) (by kernel_rfl) (by kernel_rfl) (fun _ _ _ h => h) (Or.inl ⟨by rfl, ?_⟩) (by assumption) ?_
          · intro w hSw; (try dsimp only at hSw); first | (go_simp; done) | (go_simp; with_reducible rfl) | (go_simp; omega) | (go_simp; intro hx; exfalso; omega)
          try simp only [Act.put, List.setIfInBounds_toArray, List.set_cons_zero, List.set_cons_succ]
          refine wpAnyH_ready (rs := [16]) (by kernel_rfl) (by simp) ?_
          refine AllReadyH.cons rfl (fun K5 hK => ?_) AllReadyH.nil
          go_simp
          go_wp2_with fail
          refine hK.out _ _ (HX.out _ (moved_alloc hmov _)) (fun hHeld => ?_)
          clear hK K5
          refine wpAnyH_ready (rs := [17]) (by kernel_rfl) (by simp) ?_
          refine AllReadyH.cons rfl (fun K5 hK => ?_) AllReadyH.nil
          refine step_push2 W rfl (.tmp 19) (.tmp 35) 42 60 rfl Try.underlying42 Use.infoE rfl (by omega) (by omega) Use.enc_len Use.enc_one w.heap.size _ cp L ⟨c.name, x1, x2⟩ _ rfl rfl _ rfl rfl hown hmov.size (by omega) ?_
          intro q5 cp5 w5 ho5 hb5 hg5 hq5
          replace hcur := hcur.step hg0 hb5; replace hmov := moved_step hmov hb5
          refine hK.out _ _ (HX.out _ hmov) (fun hHeld => ?_)
          clear hK K5
          refine wpAnyH_take (i := 18) (v := .slice (some ⟨q5, 0, none⟩) (L.length + 1) cp5) rfl (by kernel_rfl) (by kernel_rfl) (by kernel_rfl) (fun _ _ _ h => h) (Or.inl ⟨by rfl, ?_⟩) (by assumption) ?_
          · intro w hSw; (try dsimp only at hSw); first | (go_simp; done) | (go_simp; with_reducible rfl) | (go_simp; omega) | (go_simp; intro hx; exfalso; omega)
          try simp only [Act.put, List.setIfInBounds_toArray, List.set_cons_zero, List.set_cons_succ]
          refine wpAnyH_done (by kernel_rfl) ?_ _
          dsimp [Act.put]
          simp only [List.setIfInBounds_toArray, List.set_cons_zero, List.set_cons_succ]
          go_wp2_with fail
          go_roundw
          case rel => exact ⟨k - 1, q5, cp5, L ++ [⟨c.name, x1, x2⟩], by omega, by go_num, sl_eq (by simp), by simp; omega, okpushU HOKL.out (show Use.Ok ⟨c.name, x1, x2⟩ from HOK.out c (List.mem_of_getElem? HCJ.out)), by rw [List.length_append]; exact ho5, hcur.mono (by simp; omega), hmov⟩
          case measure => simp [intOf] <;> omega
        refine AllReadyH.cons rfl (fun K5 hK => ?_) AllReadyH.nil
        go_simp
        go_wp2_with fail
        have hl2 := Lit.new (W := W) #[.int .i64 1, .int .i64 2, .int .i64 3, .int .i64 6, .int .i64 100] 3 (by simp [intOf]) hgw
        have hmA : W.grownBy (W.alloc (.cells #[.int .i64 1, .int .i64 2, .int .i64 3, .int .i64 6, .int .i64 100] 3)) (some g) := moved_alloc (moved_refl W g) _
        replace hown := own_moved hmA hg0 hown
        replace hcur := hcur.below ((Below.refl _ _).alloc (Nat.le_refl _) (.cells #[.int .i64 1, .int .i64 2, .int .i64 3, .int .i64 6, .int .i64 100] 3)); replace hmov := moved_alloc hmov (.cells #[.int .i64 1, .int .i64 2, .int .i64 3, .int .i64 6, .int .i64 100] 3)
        replace hgw := Nat.lt_of_lt_of_le hg0 hmov.size
        clear hmA
        refine hK.out _ _ (HX.out _ hmov) (fun hHeld => ?_)
        clear hK K5
        try simp only [Act.put, List.setIfInBounds_toArray, List.set_cons_zero, List.set_cons_succ]
        clear hHeld
        have hHeld := HX.out _ hmov
        generalize W.alloc (.cells #[.int .i64 1, .int .i64 2, .int .i64 3, .int .i64 6, .int .i64 100] 3) = W at *
        skip
        refine wpAnyH_ready (rs := [10]) (by kernel_rfl) (by simp) ?_
        refine AllReadyH.cons rfl (fun K5 hK => ?_) AllReadyH.nil
        go_simp
        go_wp2_with fail
        have hl1 := Lit.new (W := W) #[.int .i64 0, .int .i64 5, .int .i64 5, .int .i64 9, .int .i64 100, .int .i64 999] 3 (by simp [intOf]) hgw
        have hmA : W.grownBy (W.alloc (.cells #[.int .i64 0, .int .i64 5, .int .i64 5, .int .i64 9, .int .i64 100, .int .i64 999] 3)) (some g) := moved_alloc (moved_refl W g) _
        replace hown := own_moved hmA hg0 hown
        replace hl2 := Lit.moved hl2 hmA
        replace hcur := hcur.below ((Below.refl _ _).alloc (Nat.le_refl _) (.cells #[.int .i64 0, .int .i64 5, .int .i64 5, .int .i64 9, .int .i64 100, .int .i64 999] 3)); replace hmov := moved_alloc hmov (.cells #[.int .i64 0, .int .i64 5, .int .i64 5, .int .i64 9, .int .i64 100, .int .i64 999] 3)
        replace hgw := Nat.lt_of_lt_of_le hg0 hmov.size
        clear hmA
        refine hK.out _ _ (HX.out _ hmov) (fun hHeld => ?_)
        clear hK K5
        try simp only [Act.put, List.setIfInBounds_toArray, List.set_cons_zero, List.set_cons_succ]
        clear hHeld
        have hHeld := HX.out _ hmov
        generalize W.alloc (.cells #[.int .i64 0, .int .i64 5, .int .i64 5, .int .i64 9, .int .i64 100, .int .i64 999] 3) = W at *
        skip
        refine wpAnyH_ready (rs := [11]) (by kernel_rfl) (by simp) ?_
        refine AllReadyH.cons rfl (fun K5 hK => ?_) AllReadyH.nil
        go_simp
        go_wp2_with fail
        refine (lit_among #[.int .i64 0, .int .i64 5, .int .i64 5, .int .i64 9, .int .i64 100, .int .i64 999] hl1 (by rfl) (by omega) (by omega) hcur (by omega)).mono ?_
        rintro e W ⟨x1, rfl, hx1, hcur, hmA⟩
        go_wp2_with fail
        replace hown := own_moved hmA hg0 hown
        replace hl2 := Lit.moved hl2 hmA
        replace hl1 := Lit.moved hl1 hmA
        replace hmov := moved_trans hmov hmA; replace hgw := Nat.lt_of_lt_of_le hg0 hmov.size; clear hmA
        refine hK.out _ _ (HX.out _ hmov) (fun hHeld => ?_)
        clear hK K5
        refine wpAnyH_ready (rs := [14]) (by kernel_rfl) (by simp) ?_
        refine AllReadyH.cons rfl (fun K5 hK => ?_) AllReadyH.nil
        go_simp
        go_wp2_with fail
        refine (lit_among #[.int .i64 1, .int .i64 2, .int .i64 3, .int .i64 6, .int .i64 100] hl2 (by rfl) (by omega) (by omega) hcur (by omega)).mono ?_
        rintro e W ⟨x2, rfl, hx2, hcur, hmA⟩
        go_wp2_with fail
        replace hown := own_moved hmA hg0 hown
        replace hl2 := Lit.moved hl2 hmA
        replace hl1 := Lit.moved hl1 hmA
        replace hmov := moved_trans hmov hmA; replace hgw := Nat.lt_of_lt_of_le hg0 hmov.size; clear hmA
        refine hK.out _ _ (HX.out _ hmov) (fun hHeld => ?_)
        clear hK K5
        refine wpAnyH_take (i := 15) (v := .agg #[.string c.name, .int .i64 x1, .int .i64 x2]) rfl (by kernel_rfl) (by kernel_rfl) (by kernel_rfl) (fun _ _ _ h => h) (Or.inl ⟨by rfl, ?_⟩) (by assumption) ?_
        · intro w hSw; (try dsimp only at hSw); first | (go_simp; done) | (go_simp; with_reducible rfl) | (go_simp; omega) | (go_simp; intro hx; exfalso; omega)
        try simp only [Act.put, List.setIfInBounds_toArray, List.set_cons_zero, List.set_cons_succ]
        refine wpAnyH_ready (rs := [16]) (by kernel_rfl) (by simp) ?_
        refine AllReadyH.cons rfl (fun K5 hK => ?_) AllReadyH.nil
        go_simp
        go_wp2_with fail
        refine hK.out _ _ (HX.out _ (moved_alloc hmov _)) (fun hHeld => ?_)
        clear hK K5
        refine wpAnyH_ready (rs := [17]) (by kernel_rfl) (by simp) ?_
        refine AllReadyH.cons rfl (fun K5 hK => ?_) AllReadyH.nil
        refine step_push2 W rfl (.tmp 19) (.tmp 35) 42 60 rfl Try.underlying42 Use.infoE rfl (by omega) (by omega) Use.enc_len Use.enc_one w.heap.size _ cp L ⟨c.name, x1, x2⟩ _ rfl rfl _ rfl rfl hown hmov.size (by omega) ?_
        intro q5 cp5 w5 ho5 hb5 hg5 hq5
        replace hcur := hcur.step hg0 hb5; replace hmov := moved_step hmov hb5
        refine hK.out _ _ (HX.out _ hmov) (fun hHeld => ?_)
        clear hK K5
        refine wpAnyH_take (i := 18) (v := .slice (some ⟨q5, 0, none⟩) (L.length + 1) cp5) rfl (by kernel_rfl) (by kernel_rfl) (by kernel_rfl) (fun _ _ _ h => h) (Or.inl ⟨by rfl, ?_⟩) (by assumption) ?_
        · intro w hSw; (try dsimp only at hSw); first | (go_simp; done) | (go_simp; with_reducible rfl) | (go_simp; omega) | (go_simp; intro hx; exfalso; omega)
        try simp only [Act.put, List.setIfInBounds_toArray, List.set_cons_zero, List.set_cons_succ]
        refine wpAnyH_done (by kernel_rfl) ?_ _
        dsimp [Act.put]
        simp only [List.setIfInBounds_toArray, List.set_cons_zero, List.set_cons_succ]
        go_wp2_with fail
        go_roundw
        case rel => exact ⟨k - 1, q5, cp5, L ++ [⟨c.name, x1, x2⟩], by omega, by go_num, sl_eq (by simp), by simp; omega, okpushU HOKL.out (show Use.Ok ⟨c.name, x1, x2⟩ from HOK.out c (List.mem_of_getElem? HCJ.out)), by rw [List.length_append]; exact ho5, hcur.mono (by simp; omega), hmov⟩
        case measure => simp [intOf] <;> omega
      refine AllReadyH.cons rfl (fun K5 hK => ?_) ?_
      · go_simp
        go_wp2_with fail
        have hl1 := Lit.new (W := W) #[.int .i64 0, .int .i64 5, .int .i64 5, .int .i64 9, .int .i64 100, .int .i64 999] 3 (by simp [intOf]) hgw
        have hmA : W.grownBy (W.alloc (.cells #[.int .i64 0, .int .i64 5, .int .i64 5, .int .i64 9, .int .i64 100, .int .i64 999] 3)) (some g) := moved_alloc (moved_refl W g) _
        replace hown := own_moved hmA hg0 hown
        replace hcur := hcur.below ((Below.refl _ _).alloc (Nat.le_refl _) (.cells #[.int .i64 0, .int .i64 5, .int .i64 5, .int .i64 9, .int .i64 100, .int .i64 999] 3)); replace hmov := moved_alloc hmov (.cells #[.int .i64 0, .int .i64 5, .int .i64 5, .int .i64 9, .int .i64 100, .int .i64 999] 3)
        replace hgw := Nat.lt_of_lt_of_le hg0 hmov.size
        clear hmA
        refine hK.out _ _ (HX.out _ hmov) (fun hHeld => ?_)
        clear hK K5
        try simp only [Act.put, List.setIfInBounds_toArray, List.set_cons_zero, List.set_cons_succ]
        clear hHeld
        have hHeld := HX.out _ hmov
        generalize W.alloc (.cells #[.int .i64 0, .int .i64 5, .int .i64 5, .int .i64 9, .int .i64 100, .int .i64 999] 3) = W at *
        skip
        refine wpAnyH_ready (rs := [5, 13]) (by kernel_rfl) (by simp) ?_
        refine AllReadyH.cons rfl (fun K5 hK => ?_) ?_
        · go_simp
          go_wp2_with fail
          refine (pick_any B g _ _ _ hcur (by omega) (by omega) (by omega)).mono ?_
          rintro e W ⟨j, rfl, hj, hcur, hmA⟩
          go_wp2_with fail
          replace hown := own_moved hmA hg0 hown
          replace hl1 := Lit.moved hl1 hmA
          replace hmov := moved_trans hmov hmA; replace hgw := Nat.lt_of_lt_of_le hg0 hmov.size; clear hmA
          refine hK.out _ _ (HX.out _ hmov) (fun hHeld => ?_)
          clear hK K5
          have hj2 : j < Lp.length := by have := HLn.out; omega
          have hji : (j : Int) < (n : Int) := by have := HLn.out; omega
          obtain ⟨c, hcj⟩ : ∃ c, Lp[j]? = some c := ⟨_, List.getElem?_eq_getElem hj2⟩
          have HCJ := hide hcj; clear hcj hj hj2
          refine wpAnyH_take (i := 6) (v := .pointer (some ⟨p, j * 5, none⟩)) rfl (by kernel_rfl) (by kernel_rfl) (by kernel_rfl) (fun _ _ _ h => h) (Or.inl ⟨by rfl, ?_⟩) (by assumption) ?_
          · intro w hSw; (try dsimp only at hSw); first | (go_simp; done) | (go_simp; with_reducible rfl) | (go_simp; omega) | (go_simp; intro hx; exfalso; omega)
          try simp only [Act.put, List.setIfInBounds_toArray, List.set_cons_zero, List.set_cons_succ]
          refine wpAnyH_take (i := 7) (v := .pointer (some ⟨p, j * 5, none⟩)) rfl (by kernel_rfl) (by kernel_rfl) (by kernel_rfl) (fun _ _ _ h => h) (Or.inl ⟨by rfl, ?_⟩) (by assumption) ?_
          · intro w hSw; (try dsimp only at hSw); first | (go_simp; done) | (go_simp; with_reducible rfl) | (go_simp; omega) | (go_simp; intro hx; exfalso; omega)
          try simp only [Act.put, List.setIfInBounds_toArray, List.set_cons_zero, List.set_cons_succ]
          refine wpAnyH_take (i := 8) (v := .string c.name) rfl (by kernel_rfl) (by kernel_rfl) (by kernel_rfl) (fun _ _ _ h => h) (Or.inl ⟨by rfl, ?_⟩) (by assumption) ?_
          · intro w hSw; (try dsimp only at hSw); have hSc := hSw j c HCJ.out; clear hSw; first | (go_simp; done) | (go_simp; with_reducible rfl) | (go_simp; omega) | (go_simp; intro hx; exfalso; omega)
          try simp only [Act.put, List.setIfInBounds_toArray, List.set_cons_zero, List.set_cons_succ]
          refine wpAnyH_ready (rs := [11, 13]) (by kernel_rfl) (by simp) ?_
          refine AllReadyH.cons rfl (fun K5 hK => ?_) ?_
          · go_simp
            go_wp2_with fail
            refine (lit_among #[.int .i64 0, .int .i64 5, .int .i64 5, .int .i64 9, .int .i64 100, .int .i64 999] hl1 (by rfl) (by omega) (by omega) hcur (by omega)).mono ?_
            rintro e W ⟨x1, rfl, hx1, hcur, hmA⟩
            go_wp2_with fail
            replace hown := own_moved hmA hg0 hown
            replace hl1 := Lit.moved hl1 hmA
            replace hmov := moved_trans hmov hmA; replace hgw := Nat.lt_of_lt_of_le hg0 hmov.size; clear hmA
            refine hK.out _ _ (HX.out _ hmov) (fun hHeld => ?_)
            clear hK K5
            refine wpAnyH_ready (rs := [13]) (by kernel_rfl) (by simp) ?_
            refine AllReadyH.cons rfl (fun K5 hK => ?_) AllReadyH.nil
            go_simp
            go_wp2_with fail
            have hl2 := Lit.new (W := W) #[.int .i64 1, .int .i64 2, .int .i64 3, .int .i64 6, .int .i64 100] 3 (by simp [intOf]) hgw
            have hmA : W.grownBy (W.alloc (.cells #[.int .i64 1, .int .i64 2, .int .i64 3, .int .i64 6, .int .i64 100] 3)) (some g) := moved_alloc (moved_refl W g) _
            replace hown := own_moved hmA hg0 hown
            replace hl1 := Lit.moved hl1 hmA
            replace hcur := hcur.below ((Below.refl _ _).alloc (Nat.le_refl _) (.cells #[.int .i64 1, .int .i64 2, .int .i64 3, .int .i64 6, .int .i64 100] 3)); replace hmov := moved_alloc hmov (.cells #[.int .i64 1, .int .i64 2, .int .i64 3, .int .i64 6, .int .i64 100] 3)
            replace hgw := Nat.lt_of_lt_of_le hg0 hmov.size
            clear hmA
            refine hK.out _ _ (HX.out _ hmov) (fun hHeld => ?_)
            clear hK K5
            try simp only [Act.put, List.setIfInBounds_toArray, List.set_cons_zero, List.set_cons_succ]
            clear hHeld
            have hHeld := HX.out _ hmov
            generalize W.alloc (.cells #[.int .i64 1, .int .i64 2, .int .i64 3, .int .i64 6, .int .i64 100] 3) = W at *
            skip
            refine wpAnyH_ready (rs := [14]) (by kernel_rfl) (by simp) ?_
            refine AllReadyH.cons rfl (fun K5 hK => ?_) AllReadyH.nil
            go_simp
            go_wp2_with fail
            refine (lit_among #[.int .i64 1, .int .i64 2, .int .i64 3, .int .i64 6, .int .i64 100] hl2 (by rfl) (by omega) (by omega) hcur (by omega)).mono ?_
            rintro e W ⟨x2, rfl, hx2, hcur, hmA⟩
            go_wp2_with fail
            replace hown := own_moved hmA hg0 hown
            replace hl1 := Lit.moved hl1 hmA
            replace hl2 := Lit.moved hl2 hmA
            replace hmov := moved_trans hmov hmA; replace hgw := Nat.lt_of_lt_of_le hg0 hmov.size; clear hmA
            refine hK.out _ _ (HX.out _ hmov) (fun hHeld => ?_)
            clear hK K5
            refine wpAnyH_take (i := 15) (v := .agg #[.string c.name, .int .i64 x1, .int .i64 x2]) rfl (by kernel_rfl) (by kernel_rfl) (by kernel_rfl) (fun _ _ _ h => h) (Or.inl ⟨by rfl, ?_⟩) (by assumption) ?_
            · intro w hSw; (try dsimp only at hSw); first | (go_simp; done) | (go_simp; with_reducible rfl) | (go_simp; omega) | (go_simp; intro hx; exfalso; omega)
            try simp only [Act.put, List.setIfInBounds_toArray, List.set_cons_zero, List.set_cons_succ]
            refine wpAnyH_ready (rs := [16]) (by kernel_rfl) (by simp) ?_
            refine AllReadyH.cons rfl (fun K5 hK => ?_) AllReadyH.nil
            go_simp
            go_wp2_with fail
            refine hK.out _ _ (HX.out _ (moved_alloc hmov _)) (fun hHeld => ?_)
            clear hK K5
            refine wpAnyH_ready (rs := [17]) (by kernel_rfl) (by simp) ?_
            refine AllReadyH.cons rfl (fun K5 hK => ?_) AllReadyH.nil
            refine step_push2 W rfl (.tmp 19) (.tmp 35) 42 60 rfl Try.underlying42 Use.infoE rfl (by omega) (by omega) Use.enc_len Use.enc_one w.heap.size _ cp L ⟨c.name, x1, x2⟩ _ rfl rfl _ rfl rfl hown hmov.size (by omega) ?_
            intro q5 cp5 w5 ho5 hb5 hg5 hq5
            replace hcur := hcur.step hg0 hb5; replace hmov := moved_step hmov hb5
            refine hK.out _ _ (HX.out _ hmov) (fun hHeld => ?_)
            clear hK K5
            refine wpAnyH_take (i := 18) (v := .slice (some ⟨q5, 0, none⟩) (L.length + 1) cp5) rfl (by kernel_rfl) (by kernel_rfl) (by kernel_rfl) (fun _ _ _ h => h) (Or.inl ⟨by rfl, ?_⟩) (by assumption) ?_
            · intro w hSw; (try dsimp only at hSw); first | (go_simp; done) | (go_simp; with_reducible rfl) | (go_simp; omega) | (go_simp; intro hx; exfalso; omega)
            try simp only [Act.put, List.setIfInBounds_toArray, List.set_cons_zero, List.set_cons_succ]
            refine wpAnyH_done (by kernel_rfl) ?_ _
            dsimp [Act.put]
            simp only [List.setIfInBounds_toArray, List.set_cons_zero, List.set_cons_succ]
            go_wp2_with fail
            go_roundw
            case rel => exact ⟨k - 1, q5, cp5, L ++ [⟨c.name, x1, x2⟩], by omega, by go_num, sl_eq (by simp), by simp; omega, okpushU HOKL.out (show Use.Ok ⟨c.name, x1, x2⟩ from HOK.out c (List.mem_of_getElem? HCJ.out)), by rw [List.length_append]; exact ho5, hcur.mono (by simp; omega), hmov⟩
            case measure => simp [intOf] <;> omega
          refine AllReadyH.cons rfl (fun K5 hK => ?_) AllReadyH.nil
          go_simp
          go_wp2_with fail
          have hl2 := Lit.new (W := W) #[.int .i64 1, .int .i64 2, .int .i64 3, .int .i64 6, .int .i64 100] 3 (by simp [intOf]) hgw
          have hmA : W.grownBy (W.alloc (.cells #[.int .i64 1, .int .i64 2, .int .i64 3, .int .i64 6, .int .i64 100] 3)) (some g) := moved_alloc (moved_refl W g) _
          replace hown := own_moved hmA hg0 hown
          replace hl1 := Lit.moved hl1 hmA
          replace hcur := hcur.below ((Below.refl _ _).alloc (Nat.le_refl _) (.cells #[.int .i64 1, .int .i64 2, .int .i64 3, .int .i64 6, .int .i64 100] 3)); replace hmov := moved_alloc hmov (.cells #[.int .i64 1, .int .i64 2, .int .i64 3, .int .i64 6, .int .i64 100] 3)
          replace hgw := Nat.lt_of_lt_of_le hg0 hmov.size
          clear hmA
          refine hK.out _ _ (HX.out _ hmov) (fun hHeld => ?_)
          clear hK K5
          try simp only [Act.put, List.setIfInBounds_toArray, List.set_cons_zero, List.set_cons_succ]
          clear hHeld
          have hHeld := HX.out _ hmov
          generalize W.alloc (.cells #[.int .i64 1, .int .i64 2, .int .i64 3, .int .i64 6, .int .i64 100] 3) = W at *
          skip
          refine wpAnyH_ready (rs := [11]) (by kernel_rfl) (by simp) ?_
          refine AllReadyH.cons rfl (fun K5 hK => ?_) AllReadyH.nil
          go_simp
          go_wp2_with fail
          refine (lit_among #[.int .i64 0, .int .i64 5, .int .i64 5, .int .i64 9, .int .i64 100, .int .i64 999] hl1 (by rfl) (by omega) (by omega) hcur (by omega)).mono ?_
          rintro e W ⟨x1, rfl, hx1, hcur, hmA⟩
          go_wp2_with fail
          replace hown := own_moved hmA hg0 hown
          replace hl1 := Lit.moved hl1 hmA
          replace hl2 := Lit.moved hl2 hmA
          replace hmov := moved_trans hmov hmA; replace hgw := Nat.lt_of_lt_of_le hg0 hmov.size; clear hmA
          refine hK.out _ _ (HX.out _ hmov) (fun hHeld => ?_)
          clear hK K5
          refine wpAnyH_ready (rs := [14]) (by kernel_rfl) (by simp) ?_
          refine AllReadyH.cons rfl (fun K5 hK => ?_) AllReadyH.nil
          go_simp
          go_wp2_with fail
          refine (lit_among #[.int .i64 1, .int .i64 2, .int .i64 3, .int .i64 6, .int .i64 100] hl2 (by rfl) (by omega) (by omega) hcur (by omega)).mono ?_
          rintro e W ⟨x2, rfl, hx2, hcur, hmA⟩
          go_wp2_with fail
          replace hown := own_moved hmA hg0 hown
          replace hl1 := Lit.moved hl1 hmA
          replace hl2 := Lit.moved hl2 hmA
          replace hmov := moved_trans hmov hmA; replace hgw := Nat.lt_of_lt_of_le hg0 hmov.size; clear hmA
          refine hK.out _ _ (HX.out _ hmov) (fun hHeld => ?_)
          clear hK K5
          refine wpAnyH_take (i := 15) (v := .agg #[.string c.name, .int .i64 x1, .int .i64 x2]) rfl (by kernel_rfl) (by kernel_rfl) (by kernel_rfl) (fun _ _ _ h => h) (Or.inl ⟨by rfl, ?_⟩) (by assumption) ?_
          · intro w hSw; (try dsimp only at hSw); first | (go_simp; done) | (go_simp; with_reducible rfl) | (go_simp; omega) | (go_simp; intro hx; exfalso; omega)
          try simp only [Act.put, List.setIfInBounds_toArray, List.set_cons_zero, List.set_cons_succ]
          refine wpAnyH_ready (rs := [16]) (by kernel_rfl) (by simp) ?_
          refine AllReadyH.cons rfl (fun K5 hK => ?_) AllReadyH.nil
          go_simp
          go_wp2_with fail
          refine hK.out _ _ (HX.out _ (moved_alloc hmov _)) (fun hHeld => ?_)
          clear hK K5
          refine wpAnyH_ready (rs := [17]) (by kernel_rfl) (by simp) ?_
          refine AllReadyH.cons rfl (fun K5 hK => ?_) AllReadyH.nil
          refine step_push2 W rfl (.tmp 19) (.tmp 35) 42 60 rfl Try.underlying42 Use.infoE rfl (by omega) (by omega) Use.enc_len Use.enc_one w.heap.size _ cp L ⟨c.name, x1, x2⟩ _ rfl rfl _ rfl rfl hown hmov.size (by omega) ?_
          intro q5 cp5 w5 ho5 hb5 hg5 hq5
          replace hcur := hcur.step hg0 hb5; replace hmov := moved_step hmov hb5
          refine hK.out _ _ (HX.out _ hmov) (fun hHeld => ?_)
          clear hK K5
          refine wpAnyH_take (i := 18) (v := .slice (some ⟨q5, 0, none⟩) (L.length + 1) cp5) rfl (by kernel_rfl) (by kernel_rfl) (by kernel_rfl) (fun _ _ _ h => h) (Or.inl ⟨by rfl, ?_⟩) (by assumption) ?_
          · intro w hSw; (try dsimp only at hSw); first | (go_simp; done) | (go_simp; with_reducible rfl) | (go_simp; omega) | (go_simp; intro hx; exfalso; omega)
          try simp only [Act.put, List.setIfInBounds_toArray, List.set_cons_zero, List.set_cons_succ]
          refine wpAnyH_done (by kernel_rfl) ?_ _
          dsimp [Act.put]
          simp only [List.setIfInBounds_toArray, List.set_cons_zero, List.set_cons_succ]
          go_wp2_with fail
          go_roundw
          case rel => exact ⟨k - 1, q5, cp5, L ++ [⟨c.name, x1, x2⟩], by omega, by go_num, sl_eq (by simp), by simp; omega, okpushU HOKL.out (show Use.Ok ⟨c.name, x1, x2⟩ from HOK.out c (List.mem_of_getElem? HCJ.out)), by rw [List.length_append]; exact ho5, hcur.mono (by simp; omega), hmov⟩
          case measure => simp [intOf] <;> omega
        refine AllReadyH.cons rfl (fun K5 hK => ?_) AllReadyH.nil
        go_simp
        go_wp2_with fail
        have hl2 := Lit.new (W := W) #[.int .i64 1, .int .i64 2, .int .i64 3, .int .i64 6, .int .i64 100] 3 (by simp [intOf]) hgw
        have hmA : W.grownBy (W.alloc (.cells #[.int .i64 1, .int .i64 2, .int .i64 3, .int .i64 6, .int .i64 100] 3)) (some g) := moved_alloc (moved_refl W g) _
        replace hown := own_moved hmA hg0 hown
        replace hl1 := Lit.moved hl1 hmA
        replace hcur := hcur.below ((Below.refl _ _).alloc (Nat.le_refl _) (.cells #[.int .i64 1, .int .i64 2, .int .i64 3, .int .i64 6, .int .i64 100] 3)); replace hmov := moved_alloc hmov (.cells #[.int .i64 1, .int .i64 2, .int .i64 3, .int .i64 6, .int .i64 100] 3)
        replace hgw := Nat.lt_of_lt_of_le hg0 hmov.size
        clear hmA
        refine hK.out _ _ (HX.out _ hmov) (fun hHeld => ?_)
        clear hK K5
        try simp only [Act.put, List.setIfInBounds_toArray, List.set_cons_zero, List.set_cons_succ]
        clear hHeld
        have hHeld := HX.out _ hmov
        generalize W.alloc (.cells #[.int .i64 1, .int .i64 2, .int .i64 3, .int .i64 6, .int .i64 100] 3) = W at *
        skip
        refine wpAnyH_ready (rs := [5]) (by kernel_rfl) (by simp) ?_
        refine AllReadyH.cons rfl (fun K5 hK => ?_) AllReadyH.nil
        go_simp
        go_wp2_with fail
        refine (pick_any B g _ _ _ hcur (by omega) (by omega) (by omega)).mono ?_
        rintro e W ⟨j, rfl, hj, hcur, hmA⟩
        go_wp2_with fail
        replace hown := own_moved hmA hg0 hown
        replace hl1 := Lit.moved hl1 hmA
        replace hl2 := Lit.moved hl2 hmA
        replace hmov := moved_trans hmov hmA; replace hgw := Nat.lt_of_lt_of_le hg0 hmov.size; clear hmA
        refine hK.out _ _ (HX.out _ hmov) (fun hHeld => ?_)
        clear hK K5
        have hj2 : j < Lp.length := by have := HLn.out; omega
        have hji : (j : Int) < (n : Int) := by have := HLn.out; omega
        obtain ⟨c, hcj⟩ : ∃ c, Lp[j]? = some c := ⟨_, List.getElem?_eq_getElem hj2⟩
        have HCJ := hide hcj; clear hcj hj hj2
        refine wpAnyH_take (i := 6) (v := .pointer (some ⟨p, j * 5, none⟩)) rfl (by kernel_rfl) (by kernel_rfl) (by kernel_rfl) (fun _ _ _ h => h) (Or.inl ⟨by rfl, ?_⟩) (by assumption) ?_
        · intro w hSw; (try dsimp only at hSw); first | (go_simp; done) | (go_simp; with_reducible rfl) | (go_simp; omega) | (go_simp; intro hx; exfalso; omega)
        try simp only [Act.put, List.setIfInBounds_toArray, List.set_cons_zero, List.set_cons_succ]
        refine wpAnyH_take (i := 7) (v := .pointer (some ⟨p, j * 5, none⟩)) rfl (by kernel_rfl) (by kernel_rfl) (by kernel_rfl) (fun _ _ _ h => h) (Or.inl ⟨by rfl, ?_⟩) (by assumption) ?_
        · intro w hSw; (try dsimp only at hSw); first | (go_simp; done) | (go_simp; with_reducible rfl) | (go_simp; omega) | (go_simp; intro hx; exfalso; omega)
        try simp only [Act.put, List.setIfInBounds_toArray, List.set_cons_zero, List.set_cons_succ]
        refine wpAnyH_take (i := 8) (v := .string c.name) rfl (by kernel_rfl) (by kernel_rfl) (by kernel_rfl) (fun _ _ _ h => h) (Or.inl ⟨by rfl, ?_⟩) (by assumption) ?_
        · intro w hSw; (try dsimp only at hSw); have hSc := hSw j c HCJ.out; clear hSw; first | (go_simp; done) | (go_simp; with_reducible rfl) | (go_simp; omega) | (go_simp; intro hx; exfalso; omega)
        try simp only [Act.put, List.setIfInBounds_toArray, List.set_cons_zero, List.set_cons_succ]
        refine wpAnyH_ready (rs := [11]) (by kernel_rfl) (by simp) ?_
        refine AllReadyH.cons rfl (fun K5 hK => ?_) AllReadyH.nil
        go_simp
        go_wp2_with fail
        refine (lit_among #[.int .i64 0, .int .i64 5, .int .i64 5, .int .i64 9, .int .i64 100, .int .i64 999] hl1 (by rfl) (by omega) (by omega) hcur (by omega)).mono ?_
        rintro e W ⟨x1, rfl, hx1, hcur, hmA⟩
        go_wp2_with fail
        replace hown := own_moved hmA hg0 hown
        replace hl1 := Lit.moved hl1 hmA
        replace hl2 := Lit.moved hl2 hmA
        replace hmov := moved_trans hmov hmA; replace hgw := Nat.lt_of_lt_of_le hg0 hmov.size; clear hmA
        refine hK.out _ _ (HX.out _ hmov) (fun hHeld => ?_)
        clear hK K5
        refine wpAnyH_ready (rs := [14]) (by kernel_rfl) (by simp) ?_
        refine AllReadyH.cons rfl (fun K5 hK => ?_) AllReadyH.nil
        go_simp
        go_wp2_with fail
        refine (lit_among #[.int .i64 1, .int .i64 2, .int .i64 3, .int .i64 6, .int .i64 100] hl2 (by rfl) (by omega) (by omega) hcur (by omega)).mono ?_
        rintro e W ⟨x2, rfl, hx2, hcur, hmA⟩
        go_wp2_with fail
        replace hown := own_moved hmA hg0 hown
        replace hl1 := Lit.moved hl1 hmA
        replace hl2 := Lit.moved hl2 hmA
        replace hmov := moved_trans hmov hmA; replace hgw := Nat.lt_of_lt_of_le hg0 hmov.size; clear hmA
        refine hK.out _ _ (HX.out _ hmov) (fun hHeld => ?_)
        clear hK K5
        refine wpAnyH_take (i := 15) (v := .agg #[.string c.name, .int .i64 x1, .int .i64 x2]) rfl (by kernel_rfl) (by kernel_rfl) (by kernel_rfl) (fun _ _ _ h => h) (Or.inl ⟨by rfl, ?_⟩) (by assumption) ?_
        · intro w hSw; (try dsimp only at hSw); first | (go_simp; done) | (go_simp; with_reducible rfl) | (go_simp; omega) | (go_simp; intro hx; exfalso; omega)
        try simp only [Act.put, List.setIfInBounds_toArray, List.set_cons_zero, List.set_cons_succ]
        refine wpAnyH_ready (rs := [16]) (by kernel_rfl) (by simp) ?_
        refine AllReadyH.cons rfl (fun K5 hK => ?_) AllReadyH.nil
        go_simp
        go_wp2_with fail
        refine hK.out _ _ (HX.out _ (moved_alloc hmov _)) (fun hHeld => ?_)
        clear hK K5
        refine wpAnyH_ready (rs := [17]) (by kernel_rfl) (by simp) ?_
        refine AllReadyH.cons rfl (fun K5 hK => ?_) AllReadyH.nil
        refine step_push2 W rfl (.tmp 19) (.tmp 35) 42 60 rfl Try.underlying42 Use.infoE rfl (by omega) (by omega) Use.enc_len Use.enc_one w.heap.size _ cp L ⟨c.name, x1, x2⟩ _ rfl rfl _ rfl rfl hown hmov.size (by omega) ?_
        intro q5 cp5 w5 ho5 hb5 hg5 hq5
        replace hcur := hcur.step hg0 hb5; replace hmov := moved_step hmov hb5
        refine hK.out _ _ (HX.out _ hmov) (fun hHeld => ?_)
        clear hK K5
        refine wpAnyH_take (i := 18) (v := .slice (some ⟨q5, 0, none⟩) (L.length + 1) cp5) rfl (by kernel_rfl) (by kernel_rfl) (by kernel_rfl) (fun _ _ _ h => h) (Or.inl ⟨by rfl, ?_⟩) (by assumption) ?_
        · intro w hSw; (try dsimp only at hSw); first | (go_simp; done) | (go_simp; with_reducible rfl) | (go_simp; omega) | (go_simp; intro hx; exfalso; omega)
        try simp only [Act.put, List.setIfInBounds_toArray, List.set_cons_zero, List.set_cons_succ]
        refine wpAnyH_done (by kernel_rfl) ?_ _
        dsimp [Act.put]
        simp only [List.setIfInBounds_toArray, List.set_cons_zero, List.set_cons_succ]
        go_wp2_with fail
        go_roundw
        case rel => exact ⟨k - 1, q5, cp5, L ++ [⟨c.name, x1, x2⟩], by omega, by go_num, sl_eq (by simp), by simp; omega, okpushU HOKL.out (show Use.Ok ⟨c.name, x1, x2⟩ from HOK.out c (List.mem_of_getElem? HCJ.out)), by rw [List.length_append]; exact ho5, hcur.mono (by simp; omega), hmov⟩
        case measure => simp [intOf] <;> omega
      refine AllReadyH.cons rfl (fun K5 hK => ?_) AllReadyH.nil
      go_simp
      go_wp2_with fail
      have hl2 := Lit.new (W := W) #[.int .i64 1, .int .i64 2, .int .i64 3, .int .i64 6, .int .i64 100] 3 (by simp [intOf]) hgw
      have hmA : W.grownBy (W.alloc (.cells #[.int .i64 1, .int .i64 2, .int .i64 3, .int .i64 6, .int .i64 100] 3)) (some g) := moved_alloc (moved_refl W g) _
      replace hown := own_moved hmA hg0 hown
      replace hcur := hcur.below ((Below.refl _ _).alloc (Nat.le_refl _) (.cells #[.int .i64 1, .int .i64 2, .int .i64 3, .int .i64 6, .int .i64 100] 3)); replace hmov := moved_alloc hmov (.cells #[.int .i64 1, .int .i64 2, .int .i64 3, .int .i64 6, .int .i64 100] 3)
      replace hgw := Nat.lt_of_lt_of_le hg0 hmov.size
      clear hmA
      refine hK.out _ _ (HX.out _ hmov) (fun hHeld => ?_)
      clear hK K5
      try simp only [Act.put, List.setIfInBounds_toArray, List.set_cons_zero, List.set_cons_succ]
      clear hHeld
      have hHeld := HX.out _ hmov
      generalize W.alloc (.cells #[.int .i64 1, .int .i64 2, .int .i64 3, .int .i64 6, .int .i64 100] 3) = W at *
      skip
      refine wpAnyH_ready (rs := [5, 10]) (by kernel_rfl) (by simp) ?_
      refine AllReadyH.cons rfl (fun K5 hK => ?_) ?_
      · go_simp
        go_wp2_with fail
        refine (pick_any B g _ _ _ hcur (by omega) (by omega) (by omega)).mono ?_
        rintro e W ⟨j, rfl, hj, hcur, hmA⟩
        go_wp2_with fail
        replace hown := own_moved hmA hg0 hown
        replace hl2 := Lit.moved hl2 hmA
        replace hmov := moved_trans hmov hmA; replace hgw := Nat.lt_of_lt_of_le hg0 hmov.size; clear hmA
        refine hK.out _ _ (HX.out _ hmov) (fun hHeld => ?_)
        clear hK K5
        have hj2 : j < Lp.length := by have := HLn.out; omega
        have hji : (j : Int) < (n : Int) := by have := HLn.out; omega
        obtain ⟨c, hcj⟩ : ∃ c, Lp[j]? = some c := ⟨_, List.getElem?_eq_getElem hj2⟩
        have HCJ := hide hcj; clear hcj hj hj2
        refine wpAnyH_take (i := 6) (v := .pointer (some ⟨p, j * 5, none⟩)) rfl (by kernel_rfl) (by kernel_rfl) (by kernel_rfl) (fun _ _ _ h => h) (Or.inl ⟨by rfl, ?_⟩) (by assumption) ?_
        · intro w hSw; (try dsimp only at hSw); first | (go_simp; done) | (go_simp; with_reducible rfl) | (go_simp; omega) | (go_simp; intro hx; exfalso; omega)
        try simp only [Act.put, List.setIfInBounds_toArray, List.set_cons_zero, List.set_cons_succ]
        refine wpAnyH_take (i := 7) (v := .pointer (some ⟨p, j * 5, none⟩)) rfl (by kernel_rfl) (by kernel_rfl) (by kernel_rfl) (fun _ _ _ h => h) (Or.inl ⟨by rfl, ?_⟩) (by assumption) ?_
        · intro w hSw; (try dsimp only at hSw); first | (go_simp; done) | (go_simp; with_reducible rfl) | (go_simp; omega) | (go_simp; intro hx; exfalso; omega)
        try simp only [Act.put, List.setIfInBounds_toArray, List.set_cons_zero, List.set_cons_succ]
        refine wpAnyH_take (i := 8) (v := .string c.name) rfl (by kernel_rfl) (by kernel_rfl) (by kernel_rfl) (fun _ _ _ h => h) (Or.inl ⟨by rfl, ?_⟩) (by assumption) ?_
        · intro w hSw; (try dsimp only at hSw); have hSc := hSw j c HCJ.out; clear hSw; first | (go_simp; done) | (go_simp; with_reducible rfl) | (go_simp; omega) | (go_simp; intro hx; exfalso; omega)
        try simp only [Act.put, List.setIfInBounds_toArray, List.set_cons_zero, List.set_cons_succ]
        refine wpAnyH_ready (rs := [10]) (by kernel_rfl) (by simp) ?_
        refine AllReadyH.cons rfl (fun K5 hK => ?_) AllReadyH.nil
        go_simp
        go_wp2_with fail
        have hl1 := Lit.new (W := W) #[.int .i64 0, .int .i64 5, .int .i64 5, .int .i64 9, .int .i64 100, .int .i64 999] 3 (by simp [intOf]) hgw
        have hmA : W.grownBy (W.alloc (.cells #[.int .i64 0, .int .i64 5, .int .i64 5, .int .i64 9, .int .i64 100, .int .i64 999] 3)) (some g) := moved_alloc (moved_refl W g) _
        replace hown := own_moved hmA hg0 hown
        replace hl2 := Lit.moved hl2 hmA
        replace hcur := hcur.below ((Below.refl _ _).alloc (Nat.le_refl _) (.cells #[.int .i64 0, .int .i64 5, .int .i64 5, .int .i64 9, .int .i64 100, .int .i64 999] 3)); replace hmov := moved_alloc hmov (.cells #[.int .i64 0, .int .i64 5, .int .i64 5, .int .i64 9, .int .i64 100, .int .i64 999] 3)
        replace hgw := Nat.lt_of_lt_of_le hg0 hmov.size
        clear hmA
        refine hK.out _ _ (HX.out _ hmov) (fun hHeld => ?_)
        clear hK K5
        try simp only [Act.put, List.setIfInBounds_toArray, List.set_cons_zero, List.set_cons_succ]
        clear hHeld
        have hHeld := HX.out _ hmov
        generalize W.alloc (.cells #[.int .i64 0, .int .i64 5, .int .i64 5, .int .i64 9, .int .i64 100, .int .i64 999] 3) = W at *
        skip
        refine wpAnyH_ready (rs := [11]) (by kernel_rfl) (by simp) ?_
        refine AllReadyH.cons rfl (fun K5 hK => ?_) AllReadyH.nil
        go_simp
        go_wp2_with fail
        refine (lit_among #[.int .i64 0, .int .i64 5, .int .i64 5, .int .i64 9, .int .i64 100, .int .i64 999] hl1 (by rfl) (by omega) (by omega) hcur (by omega)).mono ?_
        rintro e W ⟨x1, rfl, hx1, hcur, hmA⟩
        go_wp2_with fail
        replace hown := own_moved hmA hg0 hown
        replace hl2 := Lit.moved hl2 hmA
        replace hl1 := Lit.moved hl1 hmA
        replace hmov := moved_trans hmov hmA; replace hgw := Nat.lt_of_lt_of_le hg0 hmov.size; clear hmA
        refine hK.out _ _ (HX.out _ hmov) (fun hHeld => ?_)
        clear hK K5
        refine wpAnyH_ready (rs := [14]) (by kernel_rfl) (by simp) ?_
        refine AllReadyH.cons rfl (fun K5 hK => ?_) AllReadyH.nil
        go_simp
        go_wp2_with fail
        refine (lit_among #[.int .i64 1, .int .i64 2, .int .i64 3, .int .i64 6, .int .i64 100] hl2 (by rfl) (by omega) (by omega) hcur (by omega)).mono ?_
        rintro e W ⟨x2, rfl, hx2, hcur, hmA⟩
        go_wp2_with fail
        replace hown := own_moved hmA hg0 hown
        replace hl2 := Lit.moved hl2 hmA
        replace hl1 := Lit.moved hl1 hmA
        replace hmov := moved_trans hmov hmA; replace hgw := Nat.lt_of_lt_of_le hg0 hmov.size; clear hmA
        refine hK.out _ _ (HX.out _ hmov) (fun hHeld => ?_)
        clear hK K5
        refine wpAnyH_take (i := 15) (v := .agg #[.string c.name, .int .i64 x1, .int .i64 x2]) rfl (by kernel_rfl) (by kernel_rfl) (by kernel_rfl) (fun _ _ _ h => h) (Or.inl ⟨by rfl, ?_⟩) (by assumption) ?_
        · intro w hSw; (try dsimp only at hSw); first | (go_simp; done) | (go_simp; with_reducible rfl) | (go_simp; omega) | (go_simp; intro hx; exfalso; omega)
        try simp only [Act.put, List.setIfInBounds_toArray, List.set_cons_zero, List.set_cons_succ]
        refine wpAnyH_ready (rs := [16]) (by kernel_rfl) (by simp) ?_
        refine AllReadyH.cons rfl (fun K5 hK => ?_) AllReadyH.nil
        go_simp
        go_wp2_with fail
        refine hK.out _ _ (HX.out _ (moved_alloc hmov _)) (fun hHeld => ?_)
        clear hK K5
        refine wpAnyH_ready (rs := [17]) (by kernel_rfl) (by simp) ?_
        refine AllReadyH.cons rfl (fun K5 hK => ?_) AllReadyH.nil
        refine step_push2 W rfl (.tmp 19) (.tmp 35) 42 60 rfl Try.underlying42 Use.infoE rfl (by omega) (by omega) Use.enc_len Use.enc_one w.heap.size _ cp L ⟨c.name, x1, x2⟩ _ rfl rfl _ rfl rfl hown hmov.size (by omega) ?_
        intro q5 cp5 w5 ho5 hb5 hg5 hq5
        replace hcur := hcur.step hg0 hb5; replace hmov := moved_step hmov hb5
        refine hK.out _ _ (HX.out _ hmov) (fun hHeld => ?_)
        clear hK K5
        refine wpAnyH_take (i := 18) (v := .slice (some ⟨q5, 0, none⟩) (L.length + 1) cp5) rfl (by kernel_rfl) (by kernel_rfl) (by kernel_rfl) (fun _ _ _ h => h) (Or.inl ⟨by rfl, ?_⟩) (by assumption) ?_
        · intro w hSw; (try dsimp only at hSw); first | (go_simp; done) | (go_simp; with_reducible rfl) | (go_simp; omega) | (go_simp; intro hx; exfalso; omega)
        try simp only [Act.put, List.setIfInBounds_toArray, List.set_cons_zero, List.set_cons_succ]
        refine wpAnyH_done (by kernel_rfl) ?_ _
        dsimp [Act.put]
        simp only [List.setIfInBounds_toArray, List.set_cons_zero, List.set_cons_succ]
        go_wp2_with fail
        go_roundw
        case rel => exact ⟨k - 1, q5, cp5, L ++ [⟨c.name, x1, x2⟩], by omega, by go_num, sl_eq (by simp), by simp; omega, okpushU HOKL.out (show Use.Ok ⟨c.name, x1, x2⟩ from HOK.out c (List.mem_of_getElem? HCJ.out)), by rw [List.length_append]; exact ho5, hcur.mono (by simp; omega), hmov⟩
        case measure => simp [intOf] <;> omega
      refine AllReadyH.cons rfl (fun K5 hK => ?_) AllReadyH.nil
      go_simp
      go_wp2_with fail
      have hl1 := Lit.new (W := W) #[.int .i64 0, .int .i64 5, .int .i64 5, .int .i64 9, .int .i64 100, .int .i64 999] 3 (by simp [intOf]) hgw
      have hmA : W.grownBy (W.alloc (.cells #[.int .i64 0, .int .i64 5, .int .i64 5, .int .i64 9, .int .i64 100, .int .i64 999] 3)) (some g) := moved_alloc (moved_refl W g) _
      replace hown := own_moved hmA hg0 hown
      replace hl2 := Lit.moved hl2 hmA
      replace hcur := hcur.below ((Below.refl _ _).alloc (Nat.le_refl _) (.cells #[.int .i64 0, .int .i64 5, .int .i64 5, .int .i64 9, .int .i64 100, .int .i64 999] 3)); replace hmov := moved_alloc hmov (.cells #[.int .i64 0, .int .i64 5, .int .i64 5, .int .i64 9, .int .i64 100, .int .i64 999] 3)
      replace hgw := Nat.lt_of_lt_of_le hg0 hmov.size
      clear hmA
      refine hK.out _ _ (HX.out _ hmov) (fun hHeld => ?_)
      clear hK K5
      try simp only [Act.put, List.setIfInBounds_toArray, List.set_cons_zero, List.set_cons_succ]
      clear hHeld
      have hHeld := HX.out _ hmov
      generalize W.alloc (.cells #[.int .i64 0, .int .i64 5, .int .i64 5, .int .i64 9, .int .i64 100, .int .i64 999] 3) = W at *
      skip
      refine wpAnyH_ready (rs := [5]) (by kernel_rfl) (by simp) ?_
      refine AllReadyH.cons rfl (fun K5 hK => ?_) AllReadyH.nil
      go_simp
      go_wp2_with fail
      refine (pick_any B g _ _ _ hcur (by omega) (by omega) (by omega)).mono ?_
      rintro e W ⟨j, rfl, hj, hcur, hmA⟩
      go_wp2_with fail
      replace hown := own_moved hmA hg0 hown
      replace hl2 := Lit.moved hl2 hmA
      replace hl1 := Lit.moved hl1 hmA
      replace hmov := moved_trans hmov hmA; replace hgw := Nat.lt_of_lt_of_le hg0 hmov.size; clear hmA
      refine hK.out _ _ (HX.out _ hmov) (fun hHeld => ?_)
      clear hK K5
      have hj2 : j < Lp.length := by have := HLn.out; omega
      have hji : (j : Int) < (n : Int) := by have := HLn.out; omega
      obtain ⟨c, hcj⟩ : ∃ c, Lp[j]? = some c := ⟨_, List.getElem?_eq_getElem hj2⟩
      have HCJ := hide hcj; clear hcj hj hj2
      refine wpAnyH_take (i := 6) (v := .pointer (some ⟨p, j * 5, none⟩)) rfl (by kernel_rfl) (by kernel_rfl) (by kernel_rfl) (fun _ _ _ h => h) (Or.inl ⟨by rfl, ?_⟩) (by assumption) ?_
      · intro w hSw; (try dsimp only at hSw); first | (go_simp; done) | (go_simp; with_reducible rfl) | (go_simp; omega) | (go_simp; intro hx; exfalso; omega)
      try simp only [Act.put, List.setIfInBounds_toArray, List.set_cons_zero, List.set_cons_succ]
      refine wpAnyH_take (i := 7) (v := .pointer (some ⟨p, j * 5, none⟩)) rfl (by kernel_rfl) (by kernel_rfl) (by kernel_rfl) (fun _ _ _ h => h) (Or.inl ⟨by rfl, ?_⟩) (by assumption) ?_
      · intro w hSw; (try dsimp only at hSw); first | (go_simp; done) | (go_simp; with_reducible rfl) | (go_simp; omega) | (go_simp; intro hx; exfalso; omega)
      try simp only [Act.put, List.setIfInBounds_toArray, List.set_cons_zero, List.set_cons_succ]
      refine wpAnyH_take (i := 8) (v := .string c.name) rfl (by kernel_rfl) (by kernel_rfl) (by kernel_rfl) (fun _ _ _ h => h) (Or.inl ⟨by rfl, ?_⟩) (by assumption) ?_
      · intro w hSw; (try dsimp only at hSw); have hSc := hSw j c HCJ.out; clear hSw; first | (go_simp; done) | (go_simp; with_reducible rfl) | (go_simp; omega) | (go_simp; intro hx; exfalso; omega)
      try simp only [Act.put, List.setIfInBounds_toArray, List.set_cons_zero, List.set_cons_succ]
      refine wpAnyH_ready (rs := [11]) (by kernel_rfl) (by simp) ?_
      refine AllReadyH.cons rfl (fun K5 hK => ?_) AllReadyH.nil
      go_simp
      go_wp2_with fail
      refine (lit_among #[.int .i64 0, .int .i64 5, .int .i64 5, .int .i64 9, .int .i64 100, .int .i64 999] hl1 (by rfl) (by omega) (by omega) hcur (by omega)).mono ?_
      rintro e W ⟨x1, rfl, hx1, hcur, hmA⟩
      go_wp2_with fail
      replace hown := own_moved hmA hg0 hown
      replace hl2 := Lit.moved hl2 hmA
      replace hl1 := Lit.moved hl1 hmA
      replace hmov := moved_trans hmov hmA; replace hgw := Nat.lt_of_lt_of_le hg0 hmov.size; clear hmA
      refine hK.out _ _ (HX.out _ hmov) (fun hHeld => ?_)
      clear hK K5
      refine wpAnyH_ready (rs := [14]) (by kernel_rfl) (by simp) ?_
      refine AllReadyH.cons rfl (fun K5 hK => ?_) AllReadyH.nil
      go_simp
      go_wp2_with fail
      refine (lit_among #[.int .i64 1, .int .i64 2, .int .i64 3, .int .i64 6, .int .i64 100] hl2 (by rfl) (by omega) (by omega) hcur (by omega)).mono ?_
      rintro e W ⟨x2, rfl, hx2, hcur, hmA⟩
      go_wp2_with fail
      replace hown := own_moved hmA hg0 hown
      replace hl2 := Lit.moved hl2 hmA
      replace hl1 := Lit.moved hl1 hmA
      replace hmov := moved_trans hmov hmA; replace hgw := Nat.lt_of_lt_of_le hg0 hmov.size; clear hmA
      refine hK.out _ _ (HX.out _ hmov) (fun hHeld => ?_)
      clear hK K5
      refine wpAnyH_take (i := 15) (v := .agg #[.string c.name, .int .i64 x1, .int .i64 x2]) rfl (by kernel_rfl) (by kernel_rfl) (by kernel_rfl) (fun _ _ _ h => h) (Or.inl ⟨by rfl, ?_⟩) (by assumption) ?_
      · intro w hSw; (try dsimp only at hSw); first | (go_simp; done) | (go_simp; with_reducible rfl) | (go_simp; omega) | (go_simp; intro hx; exfalso; omega)
      try simp only [Act.put, List.setIfInBounds_toArray, List.set_cons_zero, List.set_cons_succ]
      refine wpAnyH_ready (rs := [16]) (by kernel_rfl) (by simp) ?_
      refine AllReadyH.cons rfl (fun K5 hK => ?_) AllReadyH.nil
      go_simp
      go_wp2_with fail
      refine hK.out _ _ (HX.out _ (moved_alloc hmov _)) (fun hHeld => ?_)
      clear hK K5
      refine wpAnyH_ready (rs := [17]) (by kernel_rfl) (by simp) ?_
      refine AllReadyH.cons rfl (fun K5 hK => ?_) AllReadyH.nil
      refine step_push2 W rfl (.tmp 19) (.tmp 35) 42 60 rfl Try.underlying42 Use.infoE rfl (by omega) (by omega) Use.enc_len Use.enc_one w.heap.size _ cp L ⟨c.name, x1, x2⟩ _ rfl rfl _ rfl rfl hown hmov.size (by omega) ?_
      intro q5 cp5 w5 ho5 hb5 hg5 hq5
      replace hcur := hcur.step hg0 hb5; replace hmov := moved_step hmov hb5
      refine hK.out _ _ (HX.out _ hmov) (fun hHeld => ?_)
      clear hK K5
      refine wpAnyH_take (i := 18) (v := .slice (some ⟨q5, 0, none⟩) (L.length + 1) cp5) rfl (by kernel_rfl) (by kernel_rfl) (by kernel_rfl) (fun _ _ _ h => h) (Or.inl ⟨by rfl, ?_⟩) (by assumption) ?_
      · intro w hSw; (try dsimp only at hSw); first | (go_simp; done) | (go_simp; with_reducible rfl) | (go_simp; omega) | (go_simp; intro hx; exfalso; omega)
      try simp only [Act.put, List.setIfInBounds_toArray, List.set_cons_zero, List.set_cons_succ]
      refine wpAnyH_done (by kernel_rfl) ?_ _
      dsimp [Act.put]
      simp only [List.setIfInBounds_toArray, List.set_cons_zero, List.set_cons_succ]
      go_wp2_with fail
      go_roundw
      case rel => exact ⟨k - 1, q5, cp5, L ++ [⟨c.name, x1, x2⟩], by omega, by go_num, sl_eq (by simp), by simp; omega, okpushU HOKL.out (show Use.Ok ⟨c.name, x1, x2⟩ from HOK.out c (List.mem_of_getElem? HCJ.out)), by rw [List.length_append]; exact ho5, hcur.mono (by simp; omega), hmov⟩
      case measure => simp [intOf] <;> omega
    · by_cases hk0 : k = 0
      · subst hk0
        clear hgo
        have HOKL := hide hok; clear hok
        go_wp2_with fail
        refine (pick_any B g _ _ _ (by assumption) (by omega) (by omega) (by omega)).mono ?_
        rintro e w1 ⟨j, rfl, hj, hcur, hm1⟩
        obtain ⟨y, hy⟩ : ∃ y : Int, y = (j : Int) := ⟨_, rfl⟩
        have hown := own_moved hm1 hg0 hown
        have hmov := moved_trans hmov hm1
        rw [← hy]; clear hm1 hj hy
        by_cases y0 : y = 0
        · subst y0
          go_wp2_with fail
          refine (partName_any B g _ n cap lo Lp A _ HLn.out hn HOK.out (own_moved hmov hgl HO.out) hgl (by assumption) (by omega)).mono ?_
          rintro e w1 ⟨x, rfl, hxs, hcur, hm1⟩
          have HXS := hide hxs; clear hxs
          have hown := own_moved hm1 hg0 hown; have hmov := moved_trans hmov hm1; clear hm1
          go_wp2_with fail
          refine (among_lit B g _ _ _ _ _ _ (by simp [intOf]) (by rfl) (by first | rfl | simp) (by omega) (by omega) (by assumption) (by omega)).mono ?_
          rintro e w1 ⟨x1, rfl, hx_x1, hcur, hm1⟩
          have hown := own_moved hm1 hg0 hown
          have hmov := moved_trans hmov hm1; clear hm1
          go_wp2_with fail
          refine (among_lit B g _ _ _ _ _ _ (by simp [intOf]) (by rfl) (by first | rfl | simp) (by omega) (by omega) (by assumption) (by omega)).mono ?_
          rintro e w1 ⟨x2, rfl, hx_x2, hcur, hm1⟩
          have hown := own_moved hm1 hg0 hown
          have hmov := moved_trans hmov hm1; clear hm1
          go_wp2_with (first | (at_builtin; refine wpList_push _ rfl (.tmp 41) (.tmp 52) 42 60 rfl Try.underlying42 Use.infoE rfl (by omega) (by omega) Use.enc_len Use.enc_one w.heap.size _ _ _ ⟨x, x1, x2⟩ _ rfl rfl _ rfl rfl hown hmov.size (by omega) ?_; intro A5 cap5 w5 ho5 hb5; have hown := ho5; have hcur := hcur.step hg0 hb5; have hmov := moved_step hmov hb5; clear ho5 hb5))
          go_ret
          exact ⟨_, _, _, _, rfl, by first | rfl | simp, hown, ⟨okpushU HOKL.out (show Use.Ok ⟨x, x1, x2⟩ from HXS.out), by simp; omega⟩, hcur.mono (by omega), hmov⟩
        by_cases y1 : y = 1
        · subst y1
          go_wp2_with fail
          go_loopw [5] (fun l wr => ∃ (A2 : Option Addr) (cp2 z : Nat) (L : List Use), l = .slice A2 z cp2 ∧ L.length = z ∧ z ≤ 21 ∧ (∀ c ∈ L, c.Ok) ∧ Own Use.enc 3 60 w.heap.size wr (.slice A2 z cp2) L ∧ Cur B wr g (K + 100 + z) ∧ w.grownBy wr (some g)) (fun l _ => 22 - lenOf l)
          case atStart => exact ⟨_, _, _, L, rfl, rfl, by omega, HOKL.out, hown, hcur.mono (by omega), hmov⟩
          case round =>
            clear hown hcur hmov HOKL hll
            obtain ⟨A2, cp2, z, L, rfl, hLz, hz, hok, hown, hcur, hmov⟩ := hrel
            have HOKL := hide hok; clear hok
            subst hLz
            go_wp2_with fail
            refine (pick_any B g _ _ _ (by assumption) (by omega) (by omega) (by omega)).mono ?_
            rintro e w1 ⟨j, rfl, hj, hcur, hm1⟩
            have hown := own_moved hm1 hg0 hown; have hmov := moved_trans hmov hm1; clear hm1
            by_cases hlt : (L.length : Int) < 20 + (j : Int)
            · by_cases hn0 : n = 0
              · subst hn0
                go_wp2_with fail
                go_ret
                exact ⟨_, _, _, _, rfl, by first | rfl | simp, hown, ⟨HOKL.out, by omega⟩, hcur.mono (by omega), hmov⟩
              · have hni : (0 : Int) < (n : Int) := by omega
                obtain ⟨p, rfl⟩ := own_some HO.out (by have := HLn.out; omega)
                obtain ⟨c, hcj⟩ : ∃ c, Lp[0]? = some c := ⟨_, List.getElem?_eq_getElem (by have := HLn.out; omega)⟩
                have y := part_names HO.out HLn.out hgl hmov 0 c hcj
                rw [Nat.zero_mul] at y
                have HCJ := hide hcj; clear hcj
                go_wp2_with (first | (at_builtin; refine wpList_push _ rfl (.tmp 67) (.tmp 76) 42 60 rfl Try.underlying42 Use.infoE rfl (by omega) (by omega) Use.enc_len Use.enc_one w.heap.size _ _ _ ⟨c.name, 30 - (L.length : Int), 1⟩ _ rfl rfl _ rfl rfl hown hmov.size (by omega) ?_; intro A5 cap5 w5 ho5 hb5; have hown := ho5; have hcur := hcur.step hg0 hb5; have hmov := moved_step hmov hb5; clear ho5 hb5))
                go_roundw
                case rel => exact ⟨_, _, _, _, rfl, by simp, by omega, okpushU HOKL.out (show Use.Ok ⟨c.name, 30 - (L.length : Int), 1⟩ from HOK.out c (List.mem_of_getElem? HCJ.out)), hown, hcur.mono (by omega), hmov⟩
                case measure => simp [lenOf] <;> omega
            · go_wp2_with fail
              go_ret
              exact ⟨_, _, _, _, rfl, by first | rfl | simp, hown, ⟨HOKL.out, by omega⟩, hcur.mono (by omega), hmov⟩
        have e0 : (y == 0) = false := by simpa using y0
        have e1 : (y == 1) = false := by simpa using y1
        clear y0 y1
        go_wp2_with fail
        go_ret
        exact ⟨_, _, _, _, rfl, by first | rfl | simp, hown, ⟨HOKL.out, by omega⟩, hcur.mono (by omega), hmov⟩
      · obtain rfl : n = 0 := by omega
        have hki : (0 : Int) < (k : Int) := by omega
        clear hgo
        have HOKL := hide hok; clear hok
        go_wp2_with fail
        refine (pick_any B g _ _ _ (by assumption) (by omega) (by omega) (by omega)).mono ?_
        rintro e w1 ⟨j, rfl, hj, hcur, hm1⟩
        obtain ⟨y, hy⟩ : ∃ y : Int, y = (j : Int) := ⟨_, rfl⟩
        have hown := own_moved hm1 hg0 hown
        have hmov := moved_trans hmov hm1
        rw [← hy]; clear hm1 hj hy
        by_cases y0 : y = 0
        · subst y0
          go_wp2_with fail
          refine (partName_any B g _ 0 cap lo Lp A _ HLn.out hn HOK.out (own_moved hmov hgl HO.out) hgl (by assumption) (by omega)).mono ?_
          rintro e w1 ⟨x, rfl, hxs, hcur, hm1⟩
          have HXS := hide hxs; clear hxs
          have hown := own_moved hm1 hg0 hown; have hmov := moved_trans hmov hm1; clear hm1
          go_wp2_with fail
          refine (among_lit B g _ _ _ _ _ _ (by simp [intOf]) (by rfl) (by first | rfl | simp) (by omega) (by omega) (by assumption) (by omega)).mono ?_
          rintro e w1 ⟨x1, rfl, hx_x1, hcur, hm1⟩
          have hown := own_moved hm1 hg0 hown
          have hmov := moved_trans hmov hm1; clear hm1
          go_wp2_with fail
          refine (among_lit B g _ _ _ _ _ _ (by simp [intOf]) (by rfl) (by first | rfl | simp) (by omega) (by omega) (by assumption) (by omega)).mono ?_
          rintro e w1 ⟨x2, rfl, hx_x2, hcur, hm1⟩
          have hown := own_moved hm1 hg0 hown
          have hmov := moved_trans hmov hm1; clear hm1
          go_wp2_with (first | (at_builtin; refine wpList_push _ rfl (.tmp 41) (.tmp 52) 42 60 rfl Try.underlying42 Use.infoE rfl (by omega) (by omega) Use.enc_len Use.enc_one w.heap.size _ _ _ ⟨x, x1, x2⟩ _ rfl rfl _ rfl rfl hown hmov.size (by omega) ?_; intro A5 cap5 w5 ho5 hb5; have hown := ho5; have hcur := hcur.step hg0 hb5; have hmov := moved_step hmov hb5; clear ho5 hb5))
          go_ret
          exact ⟨_, _, _, _, rfl, by first | rfl | simp, hown, ⟨okpushU HOKL.out (show Use.Ok ⟨x, x1, x2⟩ from HXS.out), by simp; omega⟩, hcur.mono (by omega), hmov⟩
        by_cases y1 : y = 1
        · subst y1
          go_wp2_with fail
          go_loopw [5] (fun l wr => ∃ (A2 : Option Addr) (cp2 z : Nat) (L : List Use), l = .slice A2 z cp2 ∧ L.length = z ∧ z ≤ 21 ∧ (∀ c ∈ L, c.Ok) ∧ Own Use.enc 3 60 w.heap.size wr (.slice A2 z cp2) L ∧ Cur B wr g (K + 100 + z) ∧ w.grownBy wr (some g)) (fun l _ => 22 - lenOf l)
          case atStart => exact ⟨_, _, _, L, rfl, rfl, by omega, HOKL.out, hown, hcur.mono (by omega), hmov⟩
          case round =>
            clear hown hcur hmov HOKL hll
            obtain ⟨A2, cp2, z, L, rfl, hLz, hz, hok, hown, hcur, hmov⟩ := hrel
            have HOKL := hide hok; clear hok
            subst hLz
            go_wp2_with fail
            refine (pick_any B g _ _ _ (by assumption) (by omega) (by omega) (by omega)).mono ?_
            rintro e w1 ⟨j, rfl, hj, hcur, hm1⟩
            have hown := own_moved hm1 hg0 hown; have hmov := moved_trans hmov hm1; clear hm1
            by_cases hlt : (L.length : Int) < 20 + (j : Int)
            · go_wp2_with fail
              go_ret
              exact ⟨_, _, _, _, rfl, by first | rfl | simp, hown, ⟨HOKL.out, by omega⟩, hcur.mono (by omega), hmov⟩
            · go_wp2_with fail
              go_ret
              exact ⟨_, _, _, _, rfl, by first | rfl | simp, hown, ⟨HOKL.out, by omega⟩, hcur.mono (by omega), hmov⟩
        have e0 : (y == 0) = false := by simpa using y0
        have e1 : (y == 1) = false := by simpa using y1
        clear y0 y1
        go_wp2_with fail
        go_ret
        exact ⟨_, _, _, _, rfl, by first | rfl | simp, hown, ⟨HOKL.out, by omega⟩, hcur.mono (by omega), hmov⟩
def UsOf (A : Option Addr) (n c : Nat) (L : List Use) (w w' : World) : Prop := L.length = n ∧ n ≤ 21 ∧ (A = none → c = 0) ∧ (∀ c ∈ L, c.Ok) ∧ Rd Use.enc 3 w'.heap.size w' A L
def PUxDraw (w : World) (e : Ending) (w' : World) : Prop := ∃ (A : Option Addr) (n c : Nat) (L : List Part) (A2 : Option Addr) (n2 c2 : Nat) (L2 : List Use) (x : Int), e = .returned (.tuple #[.slice A n c, .slice A2 n2 c2, .int .i64 x]) ∧ PtsOf A n c L w w' ∧ UsOf A2 n2 c2 L2 w w'
def PUsDraw (w : World) (e : Ending) (w' : World) : Prop := ∃ (A : Option Addr) (n c : Nat) (L : List Part) (A2 : Option Addr) (n2 c2 : Nat) (L2 : List Use) (x : ByteArray), e = .returned (.tuple #[.slice A n c, .slice A2 n2 c2, .string x]) ∧ x.size ≤ maxLen ∧ PtsOf A n c L w w' ∧ UsOf A2 n2 c2 L2 w w'
theorem us_of {lo n c : Nat} {A : Option Addr} {L : List Use} {w w' : World} (hL : L.length = n) (h : Own Use.enc 3 60 lo w' (.slice A n c) L) (hz : GoodUs L) : UsOf A n c L w w' :=
  ⟨hL, by have := hz.2; omega, own_nilcap h, hz.1, by subst hL; exact own_rdm (fun _ => rfl) h⟩
set_option maxRecDepth 100000 in
set_option maxHeartbeats 2000000 in
theorem DrawStockAfter_any (A : Option Addr) (Lc : List Int) (cap : Nat) (w : World) (hc : CodeIs w A Lc) :
    Calls Try.prog 44 #[.slice A Lc.length cap] w (PUxDraw w) := by
  have hcur := cur_new hc cap
  have hb0 : Below w.heap.size w (w.alloc (.cells #[.slice A Lc.length cap, .int .i64 0, .int .u64 0] 89)) := (Below.refl _ _).alloc (Nat.le_refl _) _
  have hg0 := hcur.lt
  have HZ0 := hide (show (w.alloc (.cells #[.slice A Lc.length cap, .int .i64 0, .int .u64 0] 89)).heap.size = w.heap.size + 1 by simp)
  go_enter Try.func44, Try.ntmps44
  go_wp2_with fail
  generalize (w.alloc (.cells #[.slice A Lc.length cap, .int .i64 0, .int .u64 0] 89)) = w0 at *
  have HB := hb0; clear hb0
  refine (parts23_any _ _ _ _ (by assumption) (by omega)).mono ?_
  rintro e w1 ⟨AL, cL, nL, L, rfl, hLL, hownL, hzL, hcur, hm⟩
  have HB := HB.trans (below_moved hm (Nat.le_refl _) (by omega)); have hs1 := hm.size; clear hm
  go_wp2_with fail
  refine (uses_any _ _ _ _ _ _ _ _ _ hLL (by have := hzL.2; omega) hzL.1 hownL (by omega) (by assumption) (by omega)).mono ?_
  rintro e w2 ⟨AU, cU, nU, U, rfl, hLU, hownU, hzU, hcur, hm⟩
  have hs2 := hm.size
  have hownL := own_moved hm (by omega) hownL; have HB := HB.trans (below_moved hm (Nat.le_refl _) (by omega)); have hsz := hm.size; clear hm
  go_wp2_with fail
  refine (pick_any _ _ _ _ _ (hcur.below ((Below.refl _ _).alloc (Nat.le_refl _) _)) (by omega) (by omega) (by omega)).mono ?_
  rintro e w3 ⟨j, rfl, hj, hcur, hm6⟩
  have hm := moved_first ((Below.refl _ _).alloc (Nat.le_refl _) _) hm6
  have hs5 := hsz; clear hsz
  have hownL := own_moved hm (by omega) hownL; have hownU := own_moved hm (by omega) hownU; have HB := HB.trans (below_moved hm (Nat.le_refl _) (by omega)); have hsz := hm.size; clear hm
  go_wp2_with fail
  refine (among_cut _ _ _ _ _ _ _ _ _ (by simp [intOf]) (by rfl) (by omega) (by omega) (by omega) (by omega) hm6 hcur (by omega)).mono ?_
  rintro e w4 ⟨x, rfl, hx, hcur, hm⟩
  have hownL := own_moved hm (by omega) hownL; have hownU := own_moved hm (by omega) hownU; have HB := HB.trans (below_moved hm (Nat.le_refl _) (by omega)); have hsz := hm.size; clear hm
  go_wp2_with fail
  go_ret3
  exact ⟨_, _, _, _, _, _, _, _, _, rfl, pts_of hLL hownL hzL HB, us_of hLU hownU hzU⟩
set_option maxRecDepth 100000 in
set_option maxHeartbeats 2000000 in
theorem DrawOrderBy_any (A : Option Addr) (Lc : List Int) (cap : Nat) (w : World) (hc : CodeIs w A Lc) :
    Calls Try.prog 47 #[.slice A Lc.length cap] w (PUsDraw w) := by
  have hcur := cur_new hc cap
  have hb0 : Below w.heap.size w (w.alloc (.cells #[.slice A Lc.length cap, .int .i64 0, .int .u64 0] 89)) := (Below.refl _ _).alloc (Nat.le_refl _) _
  have hg0 := hcur.lt
  have HZ0 := hide (show (w.alloc (.cells #[.slice A Lc.length cap, .int .i64 0, .int .u64 0] 89)).heap.size = w.heap.size + 1 by simp)
  go_enter Try.func47, Try.ntmps47
  go_wp2_with fail
  generalize (w.alloc (.cells #[.slice A Lc.length cap, .int .i64 0, .int .u64 0] 89)) = w0 at *
  have HB := hb0; clear hb0
  refine (parts23_any _ _ _ _ (by assumption) (by omega)).mono ?_
  rintro e w1 ⟨AL, cL, nL, L, rfl, hLL, hownL, hzL, hcur, hm⟩
  have HB := HB.trans (below_moved hm (Nat.le_refl _) (by omega)); have hs1 := hm.size; clear hm
  go_wp2_with fail
  refine (uses_any _ _ _ _ _ _ _ _ _ hLL (by have := hzL.2; omega) hzL.1 hownL (by omega) (by assumption) (by omega)).mono ?_
  rintro e w2 ⟨AU, cU, nU, U, rfl, hLU, hownU, hzU, hcur, hm⟩
  have hs2 := hm.size
  have hownL := own_moved hm (by omega) hownL; have HB := HB.trans (below_moved hm (Nat.le_refl _) (by omega)); have hsz := hm.size; clear hm
  go_wp2_with fail
  refine (partName_any _ _ _ _ _ _ _ _ _ hLL (by have := hzL.2; omega) hzL.1 hownL (by omega) (by assumption) (by omega)).mono ?_
  rintro e w3 ⟨s, rfl, hs3, hcur, hm⟩
  have HS3 := hide hs3; clear hs3
  have hs5 := hsz; clear hsz
  have hownL := own_moved hm (by omega) hownL; have hownU := own_moved hm (by omega) hownU; have HB := HB.trans (below_moved hm (Nat.le_refl _) (by omega)); have hsz := hm.size; clear hm
  go_wp2_with fail
  go_ret3
  exact ⟨_, _, _, _, _, _, _, _, _, rfl, HS3.out, pts_of hLL hownL hzL HB, us_of hLU hownU hzU⟩
end Go.Proofs.Ytlphegjhkchglaa
