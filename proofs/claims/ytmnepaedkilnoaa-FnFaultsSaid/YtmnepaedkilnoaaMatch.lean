/- The match of a pattern that begins with one event: the program's function. The record is a record, the pattern a pattern. -/
import Derived.Test.YtmnepaedkilnoaaPats
import Derived.Test.YtmnepaedkilnoaaPush
namespace Go.Proofs.Ytmnepaedkilnoaa
open Go Go.RowKit
set_option linter.unusedVariables false
/- a slice of numbers that is nil where there is none -/
def GivesM (l : List Int) (w : World) (e : Ending) (w' : World) : Prop :=
  ∃ A cap, e = .returned (.slice A l.length cap) ∧ Own encI 1 3 w.heap.size w' (.slice A l.length cap) l ∧ (l = [] → A = none ∧ cap = 0) ∧ (l ≠ [] → A ≠ none) ∧ Below w.heap.size w w'
theorem givesM_nil {l : List Int} {w w' : World} (h : l = []) (hb : Below w.heap.size w w') : GivesM l w (.returned (.slice none 0 0)) w' := by
  subst h; exact ⟨none, 0, rfl, own_nil _ _ _, fun _ => ⟨rfl, rfl⟩, fun h => absurd rfl h, hb⟩
theorem own_some {T lo n cap : Nat} {w : World} {A : Option Addr} {l : List Int} (h : Own encI 1 T lo w (.slice A n cap) l) (hl : l ≠ []) : A ≠ none := by
  rcases h.2 with ⟨_, h0⟩ | ⟨g, c, cur, hv, _⟩
  · exact absurd (List.eq_nil_of_length_eq_zero h0) hl
  · injection hv with hv
    rw [hv]; simp
set_option maxRecDepth 100000 in
set_option maxHeartbeats 2000000 in
theorem matchFrom_p (p : Pat) (ca : Option Addr) (cc : Nat) (R : List Event) (A : Option Addr) (cap : Nat) (first : Nat) (w : World) (hf : first < R.length) (hR : recB R = true) (hp : patB p = true) (hr : Rd Event.enc 2 w.heap.size w A R) (hd : Rd encI 1 w.heap.size w ca p.codes) :
    Calls Try.prog 87 #[.agg #[.int .i64 p.fault, .slice ca p.codes.length cc, .int .i64 p.within], .slice A R.length cap, .int .i64 first] w (GivesM (mFrom R p first) w) := by
  obtain ⟨b, o, rfl, hb, hc⟩ := Event.rd_at hr (by intro h; subst h; simp at hf)
  obtain ⟨⟨pf0, pf1⟩, ⟨pl0, pl1⟩, pw0, pw1⟩ := patB_bd hp
  obtain ⟨bc, oc, rfl, hbc, hcc⟩ := rd_int hd (by intro h; rw [h] at pl0; simp at pl0)
  have hlen := riseB_len hR
  have hRb := hide (fun (k : Nat) (c : Event) (hk : R[k]? = some c) => recB_bd hR hk)
  have hg0 := List.getElem?_eq_getElem hf
  obtain ⟨t0c, _⟩ := hc first _ hg0
  obtain ⟨⟨bt0, bt1⟩, _⟩ := hRb.out _ _ hg0
  have HM := hide (show mGo R p R[first].time first (R.length - first) first [] = mFrom R p first by simp [mFrom, hg0])
  generalize R[first].time = t0 at *
  clear hg0 hr hd hR hp
  have hba : Below w.heap.size w (w.alloc (.cells #[.int .i64 p.fault, .slice (some ⟨bc, oc, none⟩) p.codes.length cc, .int .i64 p.within] 62)) := (Below.refl _ _).alloc (Nat.le_refl _) _
  obtain ⟨hx1, _⟩ := CF.new w #[.int .i64 p.fault, .slice (some ⟨bc, oc, none⟩) p.codes.length cc, .int .i64 p.within] 62 w.heap.size 1 _ rfl rfl
  obtain ⟨hx2, _⟩ := CF.new w #[.int .i64 p.fault, .slice (some ⟨bc, oc, none⟩) p.codes.length cc, .int .i64 p.within] 62 w.heap.size 2 _ rfl rfl
  have hown0 : Own encI 1 3 (w.heap.size + 1) ((w.alloc (.cells #[.int .i64 p.fault, .slice (some ⟨bc, oc, none⟩) p.codes.length cc, .int .i64 p.within] 62)).alloc (.cells #[] 3)) (.slice (some ⟨w.heap.size + 1, 0, none⟩) 0 0) [] := by
    have := own_empty (enc := encI) (sz := 1) (T := 3) (lo := w.heap.size + 1) (w := w.alloc (.cells #[.int .i64 p.fault, .slice (some ⟨bc, oc, none⟩) p.codes.length cc, .int .i64 p.within] 62)) (by simp)
    simpa using this
  go_enter Try.func87, Try.ntmps87
  go_wp2_with fail
  go_loopw [8, 7] (fun x y wr => ∃ (i : Nat) (out : List Int) (A' : Option Addr) (cap' : Nat), x = .int .i64 i ∧ y = .slice A' out.length cap' ∧ first ≤ i ∧ i ≤ R.length ∧ out.length < p.codes.length ∧ A' ≠ none ∧ Hid (mGo R p t0 first (R.length - i) i out = mFrom R p first) ∧ Own encI 1 3 (w.heap.size + 1) wr (.slice A' out.length cap') out ∧ Below (w.heap.size + 1) (w.alloc (.cells #[.int .i64 p.fault, .slice (some ⟨bc, oc, none⟩) p.codes.length cc, .int .i64 p.within] 62)) wr) (fun x _ _ => R.length - (intOf x).toNat)
  case atStart => exact ⟨first, [], _, 0, rfl, rfl, Nat.le_refl _, by omega, by simp; omega, by simp, HM, hown0, (Below.refl _ _).alloc (by simp) _⟩
  case round =>
    clear hown0
    obtain ⟨i, out, A', cap', rfl, rfl, hi0, hi1, hol, hA', hm, hown, hbel⟩ := hrel
    have hbw : Below w.heap.size w wr := hba.trans (hbel.mono (by omega))
    have hws : w.heap.size + 1 ≤ wr.heap.size := by have := hbel.size; simpa using this
    have HA := hide hA'; clear hA'
    have x1 := (hbel.cell (p := ⟨w.heap.size, 1, none⟩) (by simp)).trans hx1
    have x2 := (hbel.cell (p := ⟨w.heap.size, 2, none⟩) (by simp)).trans hx2
    clear hx1 hx2 hba
    have t0w := below_cell hbw t0c
    have hff : (first : Int) < (R.length : Int) := by omega
    by_cases hlt : i < R.length
    · have hget := List.getElem?_eq_getElem hlt
      obtain ⟨y0, y1⟩ := hc i _ hget
      obtain ⟨⟨be0, be1⟩, _⟩ := hRb.out _ _ hget
      obtain ⟨f, hfe⟩ : ∃ f, R.length - i = f + 1 := ⟨R.length - i - 1, by omega⟩
      have hm1 : mGo R p t0 first (f + 1) i out = mFrom R p first := by rw [← hfe]; exact hm.out
      have HM1 := hide hm1
      have HFE := hide (show R.length - (i + 1) = f by omega)
      clear hm hm1 hfe
      generalize R[i] = e at *
      have HG := hide hget; clear hget
      replace y0 := below_cell hbw y0
      replace y1 := below_cell hbw y1
      have hii : (i : Int) < (R.length : Int) := by omega
      have q0 := after_cell y0
      have q1 := after_cell t0w
      have q2 := after_cell x2
      by_cases hlate : p.within < e.time - t0
      · have hd0 : decide (e.time - t0 ≤ p.within) = false := by simp; omega
        have HL := hide hlate
        go_wp2_with fail
        refine wp_region_after (by kernel_rfl) (by kernel_rfl) ?_
        repeat (go_big_quiet_step (fail))
        refine wpQuiet_nil ?_
        rintro w2 ⟨⟨_, hb2⟩, rfl⟩
        go_wp2_with fail
        go_ret
        exact givesM_nil (by rw [← HM1.out]; exact mGo_late HG.out HL.out) (below_step hbw hb2 (Nat.le_refl _))
      · have hd0 : decide (e.time - t0 ≤ p.within) = true := by simp; omega
        have HL := hide hlate; clear hlate
        have hcg := List.getElem?_eq_getElem hol
        have n0 := below_cell hbw (hcc _ _ hcg)
        have hol' : (out.length : Int) < (p.codes.length : Int) := by omega
        generalize p.codes[out.length] = cd at *
        have HCG := hide hcg; clear hcg hcc hc
        go_wp2_with fail
        refine wp_region_after (by kernel_rfl) (by kernel_rfl) ?_
        repeat (go_big_quiet_step (fail))
        refine wpQuiet_nil ?_
        rintro w2 ⟨⟨_, hb2⟩, rfl⟩
        have q3 := after_cell (below_cell hb2 y1)
        have q4 := after_cell (below_cell hb2 x1)
        have q5 := after_cell (below_cell hb2 n0)
        have hws2 := hb2.size
        cases hcode : (e.code == cd)
        · have HC := hide (show ¬ e.code = cd by simpa using hcode)
          go_wp2_with fail
          refine wp_region_after (by kernel_rfl) (by kernel_rfl) ?_
          repeat (go_big_quiet_step (fail))
          refine wpQuiet_nil ?_
          rintro w3 ⟨⟨_, hb3⟩, rfl⟩
          have B3 := below_step (below_step hbw hb2 (Nat.le_refl _)) hb3 (Nat.le_refl _)
          have x3 := below_cell hb3 (below_cell hb2 x1)
          by_cases hif : i = first
          · have hif' : ((i : Int) == (first : Int)) = true := by simp [hif]
            have HIF := hide hif; clear hif
            go_wp2_with fail
            go_ret
            exact givesM_nil (by rw [← HM1.out]; exact mGo_none HG.out HCG.out HC.out HIF.out) B3
          · have hif' : ((i : Int) == (first : Int)) = false := by simp; omega
            have hne : ((out.length : Int) == (p.codes.length : Int)) = false := by simp; omega
            have HIF := hide hif; clear hif
            go_wp2_with fail
            go_roundw
            case rel => exact ⟨i + 1, out, A', cap', by go_num, rfl, by omega, by omega, hol, HA.out, hide (by rw [HFE.out, ← mGo_miss HG.out (by have := HL.out; omega) HCG.out HC.out HIF.out]; exact HM1.out), Own.below (Own.below hown hb2) hb3, (hbel.trans (hb2.mono hws)).trans (hb3.mono (by omega))⟩
            case measure => simp [intOf]; omega
        · have HC := hide (show e.code = cd by simpa using hcode)
          go_wp2_with fail
          refine wp_region_after (by kernel_rfl) (by kernel_rfl) ?_
          repeat (go_big_quiet_step (fail))
          refine wpQuiet_nil ?_
          rintro w3 ⟨⟨_, hb3⟩, rfl⟩
          have hws3 := hb3.size
          have B3 := below_step (below_step hbw hb2 (Nat.le_refl _)) hb3 (Nat.le_refl _)
          have x3 := below_cell hb3 (below_cell hb2 x1)
          have hown3 := Own.below (Own.below hown hb2) hb3
          have hbel3 := (hbel.trans (hb2.mono hws)).trans (hb3.mono (show w.heap.size + 1 ≤ w2.heap.size by omega))
          by_cases hl : out.length + 1 = p.codes.length
          · have hl0 : ((↑(out.length + 1) : Int) == (p.codes.length : Int)) = true := by simp; omega
            have HLL := hide hl; clear hl
            go_wp2_with (at_builtin; refine wpList_push _ rfl (.tmp 45) (.tmp 47) 45 3 rfl Try.underlying45 infoI rfl (by omega) (by omega) encI_len encI_one (w.heap.size + 1) A' cap' out (i : Int) _ rfl rfl _ rfl rfl hown3 (by omega) (by omega) ?_; intro A2 cap2 w4 ho4 hb4; have x4 := (hb4.cell (p := ⟨w.heap.size, 1, none⟩) (by simp)).trans x3)
            go_ret
            have he := mGo_last (f := f) (t0 := t0) (first := first) HG.out (by have := HL.out; omega) HCG.out HC.out HLL.out
            rw [← HM1.out, he]
            refine ⟨A2, cap2, by rw [List.length_append]; rfl, by rw [List.length_append]; exact ho4.mono (by omega), fun h => absurd h (by simp), fun _ => own_some ho4 (by simp), B3.trans (hb4.mono (by omega))⟩
          · have hl0 : ((↑(out.length + 1) : Int) == (p.codes.length : Int)) = false := by simp; omega
            have HLL := hide hl; have hol2 : out.length + 1 < p.codes.length := by omega
            clear hl
            go_wp2_with (at_builtin; refine wpList_push _ rfl (.tmp 45) (.tmp 47) 45 3 rfl Try.underlying45 infoI rfl (by omega) (by omega) encI_len encI_one (w.heap.size + 1) A' cap' out (i : Int) _ rfl rfl _ rfl rfl hown3 (by omega) (by omega) ?_; intro A2 cap2 w4 ho4 hb4; have x4 := (hb4.cell (p := ⟨w.heap.size, 1, none⟩) (by simp)).trans x3)
            go_roundw
            case rel =>
              refine ⟨i + 1, out ++ [(i : Int)], A2, cap2, by go_num, by rw [List.length_append]; rfl, by omega, by omega, by rw [List.length_append]; exact hol2, ?_, hide ?_, by rw [List.length_append]; exact ho4, hbel3.trans hb4⟩
              · exact own_some ho4 (by simp)
              · rw [HFE.out, ← mGo_hit HG.out (by have := HL.out; omega) HCG.out HC.out HLL.out]; exact HM1.out
            case measure => simp [intOf]; omega
    · obtain rfl : i = R.length := by omega
      go_wp2_with fail
      refine wp_region_after (by kernel_rfl) (by kernel_rfl) ?_
      repeat (go_big_quiet_step (fail))
      refine wpQuiet_nil ?_
      rintro w2 ⟨⟨_, hb2⟩, rfl⟩
      go_wp2_with fail
      go_ret
      exact givesM_nil (by rw [← hm.out]; exact mGo_end (Nat.le_refl _)) (below_step hbw hb2 (Nat.le_refl _))
theorem matchFrom_any (c : Pattern) (R : List Event) (A : Option Addr) (cap : Nat) (first : Nat) (w : World) (hf : first < R.length) (hR : recB R = true) (hp : patB c.toPat = true) (hr : Rd Event.enc 2 w.heap.size w A R) (hd : Rd encI 1 w.heap.size w c.ca c.codes) :
    Calls Try.prog 87 #[.agg #[.int .i64 c.fault, .slice c.ca c.codes.length c.cc, .int .i64 c.within], .slice A R.length cap, .int .i64 first] w (GivesM (mFrom R c.toPat first) w) := matchFrom_p c.toPat c.ca c.cc R A cap first w hf hR hp hr hd
end Go.Proofs.Ytmnepaedkilnoaa
