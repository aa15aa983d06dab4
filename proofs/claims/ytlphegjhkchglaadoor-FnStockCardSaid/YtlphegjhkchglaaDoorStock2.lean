/- AddStock: the reference's function. -/
import Derived.Test.YtlphegjhkchglaaDoorStock
import Derived.Test.YtlphegjhkchglaaDoorDraw
import Derived.Deep.DeepCutAuto
namespace Go.Proofs.YtlphegjhkchglaaDoor
open Go Go.RowKit
set_option linter.unusedVariables false
theorem Part.one_cells {lo p : Nat} {w : World} {c : Part} (h : Own Part.enc 5 27 lo w (.slice (some ⟨p, 0, none⟩) 1 1) [c]) : w.cell? ⟨p, 0, none⟩ = some (.string c.name) ∧ w.cell? ⟨p, 1, none⟩ = some (.int .i64 c.have_) ∧ w.cell? ⟨p, 2, none⟩ = some (.int .i64 c.least) ∧ w.cell? ⟨p, 3, none⟩ = some (.int .i64 c.lead) ∧ w.cell? ⟨p, 4, none⟩ = some (.int .i64 c.price) :=
  ⟨own_cell h (flat_get Part.enc_len [c] 0 c rfl 0 _ rfl), own_cell h (flat_get Part.enc_len [c] 0 c rfl 1 _ rfl), own_cell h (flat_get Part.enc_len [c] 0 c rfl 2 _ rfl), own_cell h (flat_get Part.enc_len [c] 0 c rfl 3 _ rfl), own_cell h (flat_get Part.enc_len [c] 0 c rfl 4 _ rfl)⟩
theorem Part.one_heap {lo p : Nat} {w : World} {c : Part} (h : Own Part.enc 5 27 lo w (.slice (some ⟨p, 0, none⟩) 1 1) [c]) : w.heap[p]? = some (.cells #[.string c.name, .int .i64 c.have_, .int .i64 c.least, .int .i64 c.lead, .int .i64 c.price] 27 (0, 0)) := by
  rcases h.2 with ⟨hv, _⟩ | ⟨g, c2, cur, hv, _, hh, _, _, hsz, htk⟩
  · cases hv
  · cases hv
    rw [hh]
    have e : cur.toList = Part.enc c := by
      have e2 : cur.toList.take (1 * 5) = [c].flatMap Part.enc := htk
      rw [List.take_of_length_le (by rw [Array.length_toList]; omega)] at e2
      rw [e2]; simp
    have e3 : cur = #[.string c.name, .int .i64 c.have_, .int .i64 c.least, .int .i64 c.lead, .int .i64 c.price] := by rw [← Array.toArray_toList (xs := cur), e]; rfl
    rw [e3]
set_option maxRecDepth 100000 in
set_option maxHeartbeats 4000000 in
theorem AddStock_spec (L : List Part) (name : ByteArray) (n : Int) (A : Option Addr) (cap : Nat) (w : World) (hr : Rd Part.enc 5 w.heap.size w A L) (hok : ∀ c ∈ L, c.Ok) (hl : L.length ≤ maxLen) :
    Calls Tryd.prog 12 #[.slice A L.length cap, .string name, .int .i64 n] w (Gives (stockL L name n).length (fun v => .tuple #[v, .bool (addB L name n)]) (fun w' v => Own Part.enc 5 27 w.heap.size w' v (stockL L name n)) w) := by
  have hno : addB L name n = false → stockL L name n = [] := fun h => by simp [stockL, h]
  cases hp : partsB L
  · have HB := hide (show addB L name n = false by simp [addB, hp])
    have HL := hide (hno HB.out)
    have HP := hide hp; clear hp hno
    go_enter Tryd.func12, Tryd.ntmps12
    go_wp2_with (first | (go_at_call 34; refine (l23Find_any L _ _ name _ hr hl).mono ?_; rintro e w0 ⟨rfl, rfl⟩) | (go_at_call 35; refine (l23Good_is HP.out _ _ _ hr hok hl).mono ?_; rintro e w2 ⟨rfl, hb2⟩))
    go_ret2
    rw [HL.out, HB.out]
    exact ⟨some ⟨w2.heap.size, 0, none⟩, 0, rfl, own_empty hb2.size, hb2.alloc hb2.size _⟩
  · have HP := hide hp; clear hp
    rcases idxF_cases (isN name) L with ⟨hi, hany⟩ | ⟨k, c, hi, hkl, hgk, hpk, hany, hno'⟩
    · have HI := hide hi; clear hi
      have HB := hide (show addB L name n = false by simp [addB, hany])
      have HL := hide (hno HB.out)
      clear hno hany
      go_enter Tryd.func12, Tryd.ntmps12
      go_wp2_with (first | (go_at_call 34; refine (l23Find_is HI.out _ _ _ hr hl).mono ?_; rintro e w0 ⟨rfl, rfl⟩) | (go_at_call 35; refine (l23Good_is HP.out _ _ _ hr hok hl).mono ?_; rintro e w2 ⟨rfl, hb2⟩))
      go_ret2
      rw [HL.out, HB.out]
      exact ⟨some ⟨w2.heap.size, 0, none⟩, 0, rfl, own_empty hb2.size, hb2.alloc hb2.size _⟩
    · have HI := hide hi
      have HA := hide (addL_hit (n := n) hi hgk)
      have hk0 : (0 : Int) ≤ (k : Int) := by omega
      clear hi hno' hpk
      cases hf : inB n (-500) 500
      · have HF := hide hf
        have HB := hide (show addB L name n = false by simp [addB, hf])
        have HL := hide (hno HB.out)
        clear hno hany hf hgk
        go_enter Tryd.func12, Tryd.ntmps12
        go_wp2_with (first | (go_at_call 34; refine (l23Find_is HI.out _ _ _ hr hl).mono ?_; rintro e w0 ⟨rfl, rfl⟩) | (go_at_call 35; refine (l23Good_is HP.out _ _ _ hr hok hl).mono ?_; rintro e w2 ⟨rfl, hb2⟩) | (go_at_call 36; refine (l1In_is HF.out _).mono ?_; rintro e w' ⟨rfl, rfl⟩))
        go_ret2
        rw [HL.out, HB.out]
        exact ⟨some ⟨w2.heap.size, 0, none⟩, 0, rfl, own_empty hb2.size, hb2.alloc hb2.size _⟩
      · have HF := hide hf
        have hlen := riseB_len HP.out
        obtain ⟨bd, _, _, _⟩ := parts_bd HP.out hgk
        have hn5 := inB_iff.1 hf
        have HBK := hide (bump_ok hok hgk n)
        have hsl : (L.set k (bump c n)).length = L.length := List.length_set
        have hki : (k : Int) < (L.length : Int) := by omega
        obtain ⟨b, o, hA, hb, hct, _⟩ := rd_part Part.enc_len hr (by intro h; subst h; simp at hkl) L.length
        rw [List.take_length] at hct
        have HCT := hide hct; clear hct
        subst hA
        cases hq : partsB (L.set k (bump c n))
        all_goals
          have HQ := hide hq
          have HBV := hide ((show addB L name n = partsB (L.set k (bump c n)) by simp [addB, HP.out, hany, hf, HA.out]).trans hq)
          clear hq
          have HG := hide hgk
          go_enter Tryd.func12, Tryd.ntmps12
          go_wp2_with fail
          refine (l23Find_is HI.out _ _ _ hr hl).mono ?_
          rintro e w0 ⟨rfl, rfl⟩
          go_wp2_with fail
          refine (l23Good_is HP.out _ _ _ hr hok hl).mono ?_
          rintro e w2 ⟨rfl, hb2⟩
          go_wp2_with fail
          refine (l1In_is HF.out _).mono ?_
          rintro e w' ⟨rfl, rfl⟩
          go_upto_region 5 with (at_builtin; refine wpList_app rfl (.tmp 27) (.tmp 28) 32 27 rfl Tryd.underlying32 Part.infoE rfl (by omega) (by omega) Part.enc_len Part.enc_one w.heap.size (some ⟨w2.heap.size, 0, none⟩) 0 [] L (some ⟨b, o, none⟩) L.length cap 0 L.length rfl (by omega) rfl rfl rfl (fun ad had j u hu => by cases had; rw [Addr.add_mid]; exact ((hb2.alloc hb2.size _).cell hb).trans (HCT.out j u hu)) (fun h => by cases h) (own_empty hb2.size) (by have := hb2.size; simp; omega) (by omega) ?_; intro Aa ca wa hoa hba hga)
          have hoa' : Own Part.enc 5 27 w.heap.size wa (.slice Aa L.length ca) L := by simpa using hoa
          have BB : Below w.heap.size w wa := (hb2.alloc hb2.size _).trans hba
          obtain ⟨g, rfl, hlg, hgw⟩ := own_form hoa' (by omega)
          have y0 := own_cell hoa' (flat_get Part.enc_len L k _ HG.out 0 _ rfl)
          have y1 := own_cell hoa' (flat_get Part.enc_len L k _ HG.out 1 _ rfl)
          have y2 := own_cell hoa' (flat_get Part.enc_len L k _ HG.out 2 _ rfl)
          have y3 := own_cell hoa' (flat_get Part.enc_len L k _ HG.out 3 _ rfl)
          have y4 := own_cell hoa' (flat_get Part.enc_len L k _ HG.out 4 _ rfl)
          rw [Nat.add_zero] at y0
          clear hoa hba hga
          go_upto_region 6 with fail
          have hb1 : Below wa.heap.size wa (wa.alloc (.cells #[.string c.name, .int .i64 c.have_, .int .i64 c.least, .int .i64 c.lead, .int .i64 c.price] 27)) := (Below.refl _ _).alloc (Nat.le_refl _) _
          have hX : Own Part.enc 5 27 w.heap.size (wa.alloc (.cells #[.string c.name, .int .i64 c.have_, .int .i64 c.least, .int .i64 c.lead, .int .i64 c.price] 27)) (.slice (some ⟨wa.heap.size, 0, none⟩) 1 1) [c] := World.ownsRow_lit (e := 27) (size := 5) wa #[.string c.name, .int .i64 c.have_, .int .i64 c.least, .int .i64 c.lead, .int .i64 c.price] 1 BB.size (by decide) rfl
          have hle : w.heap.size ≤ wa.heap.size := BB.size
          have hnp : g ≠ wa.heap.size := Nat.ne_of_lt hgw
          have hown := Own.below hoa' hb1
          have BX := below_step BB hb1 (Nat.le_refl _)
          clear hb1 y0 y1 y2 y3 y4 hoa' BB
          generalize (wa.alloc (.cells #[.string c.name, .int .i64 c.have_, .int .i64 c.least, .int .i64 c.lead, .int .i64 c.price] 27)) = wx at *
          generalize wa.heap.size = px at *
          obtain ⟨u0, u1, u2, u3, u4⟩ := Part.one_cells hX
          have hfz := Own.frozen_ hX rfl 1
          have hXS := Own.set_cell Part.enc_len hX rfl (k := 0) (j := 1) (c := c) (c' := bump c n) rfl (by omega) (u := .int .i64 (c.have_ + n)) rfl
          have hbs := (Below.refl w.heap.size wx).setCell (p := ⟨px, 1, none⟩) hle (.int .i64 (c.have_ + n))
          have hownS := own_grown hown (moved_set (g := px) (j := 1) (u := .int .i64 (c.have_ + n)) (moved_refl wx px)) (.inl (by intro e; injection e with e; exact hnp e))
          have BS := BX.trans hbs
          have hwr : IntKind.i64.wrap (c.have_ + n) = c.have_ + n := by rw [IntKind.wrap_i64]; omega
          clear hbs
          go_upto_region 7 with fail
          have hXS : Own Part.enc 5 27 w.heap.size (wx.setCell ⟨px, 1, none⟩ (.int .i64 (c.have_ + n))) (.slice (some ⟨px, 0, none⟩) 1 1) [bump c n] := hXS
          generalize (wx.setCell ⟨px, 1, none⟩ (.int .i64 (c.have_ + n))) = wS at *
          clear u0 u1 u2 u3 u4 hfz hX hown BX
          obtain ⟨u0, u1, u2, u3, u4⟩ := Part.one_cells hXS
          have hset := Own.set_ Part.enc_len hownS rfl (k := k) hkl (bump c n)
          have hbs := below_setCells g hlg (Part.enc (bump c n)) (k * 5) _ (Below.refl w.heap.size wS)
          have BE := BS.trans hbs
          go_wp2_with (first | (with_reducible show wpList _ _ _ (⟨none, _, _, _, _, _⟩ :: _) _ _; refine wpList_store_mid rfl 27 (.tmp 42) (.tmp 41) rfl g (k * 5) _ rfl rfl (Own.there_ hownS rfl (by simp <;> omega)) (by kernel_rfl) (by simp [Value.oneCell']) ?_))
          refine (l23Good_n HQ.out hsl _ _ _ (Own.rd_of Part.enc_len hset) HBK.out (by unfold maxLen; omega)).mono ?_
          rintro e w8 ⟨rfl, hb8⟩
          have BF := below_step BE hb8 (Nat.le_refl _)
          go_wp2_with fail
          go_ret2
          first
            | (have HL : stockL L name n = [] := by simp [stockL, HBV.out]
               rw [HL, HBV.out]; exact ⟨_, _, rfl, own_empty BF.size, below_step BF ((Below.refl _ _).alloc (Nat.le_refl _) _) (Nat.le_refl _)⟩)
            | (have HL : stockL L name n = L.set k (bump c n) := by simp [stockL, HBV.out, HA.out]
               rw [HL, HBV.out]; exact ⟨_, _, by rw [hsl]; rfl, by rw [hsl]; exact Own.below hset hb8, BF⟩)
end Go.Proofs.YtlphegjhkchglaaDoor
