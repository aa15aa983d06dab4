/- Putting a shift into a plan: the reference's l22Put. -/
import Derived.Test.YtfaicjlpncidgaaPut2
import Derived.Test.YtfaicjlpncidgaaApp
import Derived.Test.YtfaicjlpncidgaaSetC
namespace Go.Proofs.Ytfaicjlpncidgaa
open Go Go.RowKit
theorem l22At_gen (c : Shift) (w : World) :
    Calls Try.prog 99 #[.agg #[.int .i64 c.day, .int .i64 c.part, .int .i64 c.who, .int .i64 c.duty]] w fun e w' => e = .returned (.int .i64 (atW c)) ∧ Below w.heap.size w w' := by
  go_enter Try.func99, Try.ntmps99
  go_wp2_with fail
  go_ret
  exact ⟨rfl, (Below.refl _ _).alloc (Nat.le_refl _) _⟩
theorem low_T {s x : Shift} : lowT s x = true ↔ atW x < atW s ∨ atW x = atW s ∧ x.who < s.who := by simp [lowT]
theorem own_none {α : Type} {enc : α → List Value} {sz : Nat} {T : TypeId} {lo nb : Nat} {w : World} (hnb : w.heap.size = nb) (hlo : lo ≤ nb) : Own enc sz T lo (w.alloc (.cells #[] T)) (.slice (some ⟨nb, 0, none⟩) 0 0) ([] : List α) := by
  subst hnb; exact own_empty hlo
theorem box_of {α : Type} (enc : α → List Value) (W : World) (c : α) (cs : Array Value) (hcs : cs.toList = enc c) (T : TypeId) (nb : Nat) (hnb : W.heap.size = nb) : ∀ j u, ([c].flatMap enc)[j]? = some u → (W.alloc (.cells cs T)).cell? ((⟨nb, 0, none⟩ : Addr).add j) = some u := by
  intro j u hu
  subst hnb
  rw [Addr.add_mid, Nat.zero_add, cell_of_row _ _ j _ T (0, 0) (heap_alloc_new W _), ← Array.getElem?_toList, hcs]
  have e : [c].flatMap enc = enc c := by simp
  rw [e] at hu
  exact hu
theorem rd_none {α : Type} {enc : α → List Value} {sz B : Nat} {w : World} {A : Option Addr} {L : List α} (hr : Rd enc sz B w A L) (h : A = none) : L.length = 0 := by
  rcases hr with h1 | ⟨b, o, hA, _⟩
  · rw [h1]; rfl
  · rw [h] at hA; cases hA
set_option maxRecDepth 100000 in
set_option maxHeartbeats 4000000 in
theorem l22Put_any (plan : List Shift) (s : Shift) (A : Option Addr) (cap : Nat) (w : World) (r1 : Rd Shift.enc 4 w.heap.size w A plan) (l1 : plan.length ≤ 1000) (hnil : A = none → cap = 0) (hcap : plan.length ≤ cap) :
    Calls Try.prog 91 #[.slice A plan.length cap, .agg #[.int .i64 s.day, .int .i64 s.part, .int .i64 s.who, .int .i64 s.duty]] w (Gives (plan.length + 1) (fun v => v) (fun w' v => Own Shift.enc 4 66 w.heap.size w' v (insL plan (posOf (lowT s) plan) s)) w) := by
  have hba : Below w.heap.size w (w.alloc (.cells #[.int .i64 s.day, .int .i64 s.part, .int .i64 s.who, .int .i64 s.duty] 66)) := (Below.refl _ _).alloc (Nat.le_refl _) _
  go_enter Try.func91, Try.ntmps91
  go_wp2_with fail
  go_loopw [5] (fun i wr => ∃ k : Nat, k ≤ plan.length ∧ i = .int .i64 k ∧ Hid (∀ (j : Nat) (c : Shift), j < k → plan[j]? = some c → lowT s c = true) ∧ Below (w.alloc (.cells #[.int .i64 s.day, .int .i64 s.part, .int .i64 s.who, .int .i64 s.duty] 66)).heap.size (w.alloc (.cells #[.int .i64 s.day, .int .i64 s.part, .int .i64 s.who, .int .i64 s.duty] 66)) wr) (fun i _ => plan.length - (intOf i).toNat)
  case atStart => exact ⟨0, Nat.zero_le _, rfl, hide (fun j c hj => absurd hj (Nat.not_lt_zero j)), Below.refl _ _⟩
  case round =>
    obtain ⟨k, hk, rfl, hl, hbel⟩ := hrel
    have hbw : Below w.heap.size w wr := below_new' hbel
    have hbox : ∀ d : After wr, d.1.cell? ⟨w.heap.size, 0, none⟩ = some (.int .i64 s.day) ∧ d.1.cell? ⟨w.heap.size, 1, none⟩ = some (.int .i64 s.part) ∧ d.1.cell? ⟨w.heap.size, 2, none⟩ = some (.int .i64 s.who) ∧ d.1.cell? ⟨w.heap.size, 3, none⟩ = some (.int .i64 s.duty) := fun d => Shift.box_after w s 66 ⟨d.1, below_step hbel d.2 (Nat.le_refl _)⟩
    by_cases hstop : ∃ c, plan[k]? = some c ∧ lowT s c = true
    · obtain ⟨c, hgc, hlc⟩ := hstop
      have hlt := (List.getElem?_eq_some_iff.1 hgc).1
      obtain ⟨b, o, rfl, hb, hc⟩ := Shift.rd_at r1 (by intro h; subst h; simp at hlt)
      obtain ⟨x0, x1, x2, x3⟩ := hc k _ hgc
      have HG := hide hgc; clear hgc hc
      replace x0 := after_cell (below_cell hbw x0)
      replace x1 := after_cell (below_cell hbw x1)
      replace x2 := after_cell (below_cell hbw x2)
      replace x3 := after_cell (below_cell hbw x3)
      have hki : (k : Int) < (plan.length : Int) := by omega
      have HLC := hide hlc
      have hlow := low_T.1 hlc
      clear hlc
      rcases hlow with h1 | ⟨h1, h2⟩
      · have hb0 : decide (atW c < atW s) = true := by simpa using h1
        go_wp2_with fail
        refine wp_region_after (by kernel_rfl) (by kernel_rfl) ?_
        repeat (go_big_quiet_step ((go_at_call 99; exact Calls.after (l22At_gen _ _))))
        refine wpQuiet_nil ?_
        rintro w2 ⟨⟨_, hb2⟩, rfl⟩
        go_wp2_with fail
        go_roundw
        case rel => exact ⟨k + 1, by omega, by go_num, hide (fun j d hj hd => by
          rcases Nat.lt_or_eq_of_le (Nat.lt_succ_iff.1 hj) with h3 | h3
          · exact hl.out j d h3 hd
          · subst h3; rw [HG.out] at hd; injection hd with hd; rw [← hd]; exact HLC.out), below_step hbel hb2 (Nat.le_refl _)⟩
        case measure => simp [intOf]; omega
      · have hb0 : decide (atW c < atW s) = false := by simp; omega
        have hb1 : (atW c == atW s) = true := by simpa using h1
        go_wp2_with fail
        refine wp_region_after (by kernel_rfl) (by kernel_rfl) ?_
        repeat (go_big_quiet_step ((go_at_call 99; exact Calls.after (l22At_gen _ _))))
        refine wpQuiet_nil ?_
        rintro w2 ⟨⟨_, hb2⟩, rfl⟩
        go_wp2_with fail
        go_roundw
        case rel => exact ⟨k + 1, by omega, by go_num, hide (fun j d hj hd => by
          rcases Nat.lt_or_eq_of_le (Nat.lt_succ_iff.1 hj) with h3 | h3
          · exact hl.out j d h3 hd
          · subst h3; rw [HG.out] at hd; injection hd with hd; rw [← hd]; exact HLC.out), below_step hbel hb2 (Nat.le_refl _)⟩
        case measure => simp [intOf]; omega
    · have hst : ∀ c, plan[k]? = some c → lowT s c = false := fun c hc => by
        cases h : lowT s c
        · rfl
        · exact absurd ⟨c, hc, h⟩ hstop
      have HPOS := hide (pos_is plan k hk hl.out hst)
      have hw0 := hbw.size
      by_cases hlt : k < plan.length
      · have hgc := List.getElem?_eq_getElem hlt
        have hlow : ¬ (atW plan[k] < atW s ∨ atW plan[k] = atW s ∧ plan[k].who < s.who) := fun h => by
          have := hst _ hgc; rw [low_T.2 h] at this; cases this
        obtain ⟨b, o, hA, hb, hct, hcd⟩ := rd_part Shift.enc_len r1 (by intro h; subst h; simp at hlt) k
        subst hA
        obtain ⟨b', o', hA', _, hc⟩ := Shift.rd_at r1 (by intro h; subst h; simp at hlt)
        cases hA'
        obtain ⟨x0, x1, x2, x3⟩ := hc k _ hgc
        generalize plan[k] = c at *
        clear hc hgc hst hl
        replace x0 := after_cell (below_cell hbw x0)
        replace x1 := after_cell (below_cell hbw x1)
        replace x2 := after_cell (below_cell hbw x2)
        replace x3 := after_cell (below_cell hbw x3)
        have hki : (k : Int) < (plan.length : Int) := by omega
        have hb0 : decide (atW c < atW s) = false := by simp; omega
        cases hb1 : (atW c == atW s)
        · have hz := hide hb1
          go_wp2_with fail
          refine wp_region_after (by kernel_rfl) (by kernel_rfl) ?_
          repeat (go_big_quiet_step ((go_at_call 99; exact Calls.after (l22At_gen _ _))))
          refine wpQuiet_nil ?_
          rintro w2 ⟨⟨_, hb2⟩, rfl⟩
          go_wp2_with fail
          have B2 : Below w.heap.size w w2 := below_step hbw hb2 (Nat.le_refl _)
          obtain ⟨z0, z1, z2, z3⟩ := hbox ⟨w2, hb2⟩
          have hS : w.heap.size < w2.heap.size := World.block_lt_of_cell? _ _ z0
          replace hct : ∀ j u, ((plan.take k).flatMap Shift.enc)[j]? = some u → w2.cell? ⟨b, o + j, none⟩ = some u := fun j u hu => (B2.cell hb).trans (hct j u hu)
          replace hcd : ∀ j u, ((plan.drop k).flatMap Shift.enc)[j]? = some u → w2.cell? ⟨b, o + k * 4 + j, none⟩ = some u := fun j u hu => (B2.cell hb).trans (hcd j u hu)
          have hbw2 := Nat.lt_of_lt_of_le hb B2.size
          have hkt : (plan.take k).length = k := by rw [List.length_take]; omega
          have hkd : (plan.drop k).length = plan.length - k := by rw [List.length_drop]
          have hk0 : (0 : Int) ≤ (k : Int) := by omega
          have hkl : (k : Int) ≤ (plan.length : Int) := by omega
          have hkc : k ≤ cap := by omega
          have hck : ¬ cap = k := by omega
          have hke : ([] ++ plan.take k ++ [s]) ++ plan.drop k = insL plan k s := by simp [insL]
          have HKE := hide hke; clear hke
          go_wp2_with fail
          have K0 : Below w2.heap.size w2 w2 := Below.refl _ _
          have HF := hide (fun (X : World) (hX : Below w2.heap.size w2 X) => show X.cell? ⟨w.heap.size, 0, none⟩ = some (.int .i64 s.day) ∧ X.cell? ⟨w.heap.size, 1, none⟩ = some (.int .i64 s.part) ∧ X.cell? ⟨w.heap.size, 2, none⟩ = some (.int .i64 s.who) ∧ X.cell? ⟨w.heap.size, 3, none⟩ = some (.int .i64 s.duty) from ⟨(hX.cell hS).trans z0, (hX.cell hS).trans z1, (hX.cell hS).trans z2, (hX.cell hS).trans z3⟩)
          go_region_held_law (fun w' => w'.cell? ⟨w.heap.size, 0, none⟩ = some (.int .i64 s.day) ∧ w'.cell? ⟨w.heap.size, 1, none⟩ = some (.int .i64 s.part) ∧ w'.cell? ⟨w.heap.size, 2, none⟩ = some (.int .i64 s.who) ∧ w'.cell? ⟨w.heap.size, 3, none⟩ = some (.int .i64 s.duty)) (exact HF.out _ (by repeat (first | assumption | exact Below.refl _ _ | refine Below.drew ?_ | refine Below.alloc ?_ (by first | omega | (simp; done) | (simp; omega)) _)))
            (first
              | (refine step_app rfl (.tmp 42) (.tmp 45) 38 66 rfl Try.underlying38 Shift.infoE rfl (by omega) (by omega) Shift.enc_len Shift.enc_one w2.heap.size _ 0 [] (plan.take k) (some ⟨b, o, none⟩) k cap 0 k rfl (by omega) rfl (by simp [Act.eval, Act.put]) hkt (fun ad had j u hu => by cases had; rw [Addr.add_mid]; exact ((show Below w2.heap.size w2 _ from by repeat (first | assumption | exact Below.refl _ _ | refine Below.drew ?_ | refine Below.alloc ?_ (by first | omega | (simp; done) | (simp; omega)) _)).cell hbw2).trans (hct j u hu)) (fun h => by cases h) (by first | exact own_none (by first | rfl | simp) (by first | omega | simp) | exact World.ownsRow.alloc (own_none (by first | rfl | simp) (by first | omega | simp)) _) (by first | omega | (simp; done) | (simp; omega)) (by omega) ?_; intro Aa ca wa hoa hba hga; have KA : Below w2.heap.size w2 wa := (show Below w2.heap.size w2 _ from by repeat (first | assumption | exact Below.refl _ _ | refine Below.drew ?_ | refine Below.alloc ?_ (by first | omega | (simp; done) | (simp; omega)) _)).trans hba; have hKA : w2.heap.size ≤ wa.heap.size := KA.size)
              | (refine step_app rfl (.tmp 46) (.tmp 48) 38 66 rfl Try.underlying38 Shift.infoE rfl (by omega) (by omega) Shift.enc_len Shift.enc_one w2.heap.size _ ca ([] ++ plan.take k) [s] (some ⟨_, 0, none⟩) 1 1 (k) (k + 1) (by rw [List.nil_append]; exact hkt) rfl rfl (by simp [Act.eval, Act.put] <;> rfl) rfl (fun ad had j u hu => by cases had; first | exact box_of _ wa s _ rfl _ _ (by first | rfl | simp) j u hu | exact (hga.cell_far _ (by first | (simp [Addr.add_mid]; done) | (simp [Addr.add_mid]; omega)) (by first | (simp [Addr.add_mid, Value.ownBlock]; done) | (simp [Addr.add_mid, Value.ownBlock]; omega))).trans (box_of _ (w2.alloc (.cells #[] 66)) s _ rfl _ _ (by first | rfl | simp) j u hu) | exact (hga.cell_far _ (by first | (simp [Addr.add_mid]; done) | (simp [Addr.add_mid]; omega)) (by first | (simp [Addr.add_mid, Value.ownBlock]; done) | (simp [Addr.add_mid, Value.ownBlock]; omega))).trans ((World.cell?_alloc_lt _ _ _ (by simp [Addr.add_mid])).trans (box_of _ w2 s _ rfl _ _ (by first | rfl | simp) j u hu))) (fun h => by cases h) (by first | exact hoa | exact World.ownsRow.alloc hoa _) (by first | omega | (simp; done) | (simp; omega)) (by omega) ?_; intro Ab cb wb hob hbb hgb; have KB : Below w2.heap.size w2 wb := (show Below w2.heap.size w2 _ from by repeat (first | assumption | exact Below.refl _ _ | refine Below.drew ?_ | refine Below.alloc ?_ (by first | omega | (simp; done) | (simp; omega)) _)).trans hbb; have hKB : w2.heap.size ≤ wb.heap.size := KB.size)
              | (refine step_app rfl (.tmp 49) (.tmp 52) 38 66 rfl Try.underlying38 Shift.infoE rfl (by omega) (by omega) Shift.enc_len Shift.enc_one w2.heap.size _ cb ([] ++ plan.take k ++ [s]) (plan.drop k) (some ⟨b, o + k * 4, none⟩) (plan.length - k) (cap - k) (k + 1) (k + 1 + (plan.length - k)) (by rw [List.length_append, List.nil_append, hkt]; rfl) (by omega) rfl (by simp [Act.eval, Act.put]) hkd (fun ad had j u hu => by cases had; rw [Addr.add_mid]; exact ((show Below w2.heap.size w2 _ from by repeat (first | assumption | exact Below.refl _ _ | refine Below.drew ?_ | refine Below.alloc ?_ (by first | omega | (simp; done) | (simp; omega)) _)).cell hbw2).trans (hcd j u hu)) (fun h => by cases h) (by first | exact hob | exact World.ownsRow.alloc hob _) (by first | omega | (simp; done) | (simp; omega)) (by omega) ?_; intro Ac cc wc hoc hbc hgc; have KC : Below w2.heap.size w2 wc := (show Below w2.heap.size w2 _ from by repeat (first | assumption | exact Below.refl _ _ | refine Below.drew ?_ | refine Below.alloc ?_ (by first | omega | (simp; done) | (simp; omega)) _)).trans hbc))
          all_goals
            rw [HKE.out] at hoc
            have BX := below_step B2 KC (Nat.le_refl _)
            go_wp2_with fail
            go_ret
            rw [HPOS.out]
            have hnn : plan.length + 1 = k + 1 + (plan.length - k) := by omega
            try rw [hnn]
            exact ⟨Ac, cc, by first | (simp; done) | rfl, Own.mono_ hoc B2.size, BX⟩
        · have he : atW c = atW s := by simpa using hb1
          have hb2' : ¬ c.who < s.who := by omega
          go_wp2_with fail
          refine wp_region_after (by kernel_rfl) (by kernel_rfl) ?_
          repeat (go_big_quiet_step ((go_at_call 99; exact Calls.after (l22At_gen _ _))))
          refine wpQuiet_nil ?_
          rintro w2 ⟨⟨_, hb2⟩, rfl⟩
          go_wp2_with fail
          have B2 : Below w.heap.size w w2 := below_step hbw hb2 (Nat.le_refl _)
          obtain ⟨z0, z1, z2, z3⟩ := hbox ⟨w2, hb2⟩
          have hS : w.heap.size < w2.heap.size := World.block_lt_of_cell? _ _ z0
          replace hct : ∀ j u, ((plan.take k).flatMap Shift.enc)[j]? = some u → w2.cell? ⟨b, o + j, none⟩ = some u := fun j u hu => (B2.cell hb).trans (hct j u hu)
          replace hcd : ∀ j u, ((plan.drop k).flatMap Shift.enc)[j]? = some u → w2.cell? ⟨b, o + k * 4 + j, none⟩ = some u := fun j u hu => (B2.cell hb).trans (hcd j u hu)
          have hbw2 := Nat.lt_of_lt_of_le hb B2.size
          have hkt : (plan.take k).length = k := by rw [List.length_take]; omega
          have hkd : (plan.drop k).length = plan.length - k := by rw [List.length_drop]
          have hk0 : (0 : Int) ≤ (k : Int) := by omega
          have hkl : (k : Int) ≤ (plan.length : Int) := by omega
          have hkc : k ≤ cap := by omega
          have hck : ¬ cap = k := by omega
          have hke : ([] ++ plan.take k ++ [s]) ++ plan.drop k = insL plan k s := by simp [insL]
          have HKE := hide hke; clear hke
          go_wp2_with fail
          have K0 : Below w2.heap.size w2 w2 := Below.refl _ _
          have HF := hide (fun (X : World) (hX : Below w2.heap.size w2 X) => show X.cell? ⟨w.heap.size, 0, none⟩ = some (.int .i64 s.day) ∧ X.cell? ⟨w.heap.size, 1, none⟩ = some (.int .i64 s.part) ∧ X.cell? ⟨w.heap.size, 2, none⟩ = some (.int .i64 s.who) ∧ X.cell? ⟨w.heap.size, 3, none⟩ = some (.int .i64 s.duty) from ⟨(hX.cell hS).trans z0, (hX.cell hS).trans z1, (hX.cell hS).trans z2, (hX.cell hS).trans z3⟩)
          go_region_held_law (fun w' => w'.cell? ⟨w.heap.size, 0, none⟩ = some (.int .i64 s.day) ∧ w'.cell? ⟨w.heap.size, 1, none⟩ = some (.int .i64 s.part) ∧ w'.cell? ⟨w.heap.size, 2, none⟩ = some (.int .i64 s.who) ∧ w'.cell? ⟨w.heap.size, 3, none⟩ = some (.int .i64 s.duty)) (exact HF.out _ (by repeat (first | assumption | exact Below.refl _ _ | refine Below.drew ?_ | refine Below.alloc ?_ (by first | omega | (simp; done) | (simp; omega)) _)))
            (first
              | (refine step_app rfl (.tmp 42) (.tmp 45) 38 66 rfl Try.underlying38 Shift.infoE rfl (by omega) (by omega) Shift.enc_len Shift.enc_one w2.heap.size _ 0 [] (plan.take k) (some ⟨b, o, none⟩) k cap 0 k rfl (by omega) rfl (by simp [Act.eval, Act.put]) hkt (fun ad had j u hu => by cases had; rw [Addr.add_mid]; exact ((show Below w2.heap.size w2 _ from by repeat (first | assumption | exact Below.refl _ _ | refine Below.drew ?_ | refine Below.alloc ?_ (by first | omega | (simp; done) | (simp; omega)) _)).cell hbw2).trans (hct j u hu)) (fun h => by cases h) (by first | exact own_none (by first | rfl | simp) (by first | omega | simp) | exact World.ownsRow.alloc (own_none (by first | rfl | simp) (by first | omega | simp)) _) (by first | omega | (simp; done) | (simp; omega)) (by omega) ?_; intro Aa ca wa hoa hba hga; have KA : Below w2.heap.size w2 wa := (show Below w2.heap.size w2 _ from by repeat (first | assumption | exact Below.refl _ _ | refine Below.drew ?_ | refine Below.alloc ?_ (by first | omega | (simp; done) | (simp; omega)) _)).trans hba; have hKA : w2.heap.size ≤ wa.heap.size := KA.size)
              | (refine step_app rfl (.tmp 46) (.tmp 48) 38 66 rfl Try.underlying38 Shift.infoE rfl (by omega) (by omega) Shift.enc_len Shift.enc_one w2.heap.size _ ca ([] ++ plan.take k) [s] (some ⟨_, 0, none⟩) 1 1 (k) (k + 1) (by rw [List.nil_append]; exact hkt) rfl rfl (by simp [Act.eval, Act.put] <;> rfl) rfl (fun ad had j u hu => by cases had; first | exact box_of _ wa s _ rfl _ _ (by first | rfl | simp) j u hu | exact (hga.cell_far _ (by first | (simp [Addr.add_mid]; done) | (simp [Addr.add_mid]; omega)) (by first | (simp [Addr.add_mid, Value.ownBlock]; done) | (simp [Addr.add_mid, Value.ownBlock]; omega))).trans (box_of _ (w2.alloc (.cells #[] 66)) s _ rfl _ _ (by first | rfl | simp) j u hu) | exact (hga.cell_far _ (by first | (simp [Addr.add_mid]; done) | (simp [Addr.add_mid]; omega)) (by first | (simp [Addr.add_mid, Value.ownBlock]; done) | (simp [Addr.add_mid, Value.ownBlock]; omega))).trans ((World.cell?_alloc_lt _ _ _ (by simp [Addr.add_mid])).trans (box_of _ w2 s _ rfl _ _ (by first | rfl | simp) j u hu))) (fun h => by cases h) (by first | exact hoa | exact World.ownsRow.alloc hoa _) (by first | omega | (simp; done) | (simp; omega)) (by omega) ?_; intro Ab cb wb hob hbb hgb; have KB : Below w2.heap.size w2 wb := (show Below w2.heap.size w2 _ from by repeat (first | assumption | exact Below.refl _ _ | refine Below.drew ?_ | refine Below.alloc ?_ (by first | omega | (simp; done) | (simp; omega)) _)).trans hbb; have hKB : w2.heap.size ≤ wb.heap.size := KB.size)
              | (refine step_app rfl (.tmp 49) (.tmp 52) 38 66 rfl Try.underlying38 Shift.infoE rfl (by omega) (by omega) Shift.enc_len Shift.enc_one w2.heap.size _ cb ([] ++ plan.take k ++ [s]) (plan.drop k) (some ⟨b, o + k * 4, none⟩) (plan.length - k) (cap - k) (k + 1) (k + 1 + (plan.length - k)) (by rw [List.length_append, List.nil_append, hkt]; rfl) (by omega) rfl (by simp [Act.eval, Act.put]) hkd (fun ad had j u hu => by cases had; rw [Addr.add_mid]; exact ((show Below w2.heap.size w2 _ from by repeat (first | assumption | exact Below.refl _ _ | refine Below.drew ?_ | refine Below.alloc ?_ (by first | omega | (simp; done) | (simp; omega)) _)).cell hbw2).trans (hcd j u hu)) (fun h => by cases h) (by first | exact hob | exact World.ownsRow.alloc hob _) (by first | omega | (simp; done) | (simp; omega)) (by omega) ?_; intro Ac cc wc hoc hbc hgc; have KC : Below w2.heap.size w2 wc := (show Below w2.heap.size w2 _ from by repeat (first | assumption | exact Below.refl _ _ | refine Below.drew ?_ | refine Below.alloc ?_ (by first | omega | (simp; done) | (simp; omega)) _)).trans hbc))
          all_goals
            rw [HKE.out] at hoc
            have BX := below_step B2 KC (Nat.le_refl _)
            go_wp2_with fail
            go_ret
            rw [HPOS.out]
            have hnn : plan.length + 1 = k + 1 + (plan.length - k) := by omega
            try rw [hnn]
            exact ⟨Ac, cc, by first | (simp; done) | rfl, Own.mono_ hoc B2.size, BX⟩
      · have hkL : plan.length ≤ k := by omega
        have hnk : ¬ (k : Int) < (plan.length : Int) := by omega
        have hd : decide ((k : Int) < (plan.length : Int)) = false := by simpa using hnk
        have hdn : decide (k < plan.length) = false := by simpa using hlt
        clear hst hl
        go_wp2_with fail
        refine wp_region_after (by kernel_rfl) (by kernel_rfl) ?_
        repeat (go_big_quiet_step ((go_at_call 99; exact Calls.after (l22At_gen _ _))))
        refine wpQuiet_nil ?_
        rintro w2 ⟨⟨_, hb2⟩, rfl⟩
        go_wp2_with fail
        clear hd hdn
        have B2 : Below w.heap.size w w2 := below_step hbw hb2 (Nat.le_refl _)
        obtain ⟨z0, z1, z2, z3⟩ := hbox ⟨w2, hb2⟩
        have hS : w.heap.size < w2.heap.size := World.block_lt_of_cell? _ _ z0
        have hkk : k = plan.length := by omega
        rcases A with _ | ad
        · have hL0 : plan.length = 0 := rd_none r1 rfl
          have hk00 : k = 0 := by omega
          have hc0 : cap = 0 := hnil rfl
          subst hc0 hk00; clear hkk
          have hkt : (plan.take 0).length = 0 := by rw [List.length_take]; omega
          have hkd : (plan.drop 0).length = plan.length - 0 := by rw [List.length_drop]
          have hdk : plan.drop 0 = [] := by rw [List.drop_eq_nil_iff]; omega
          have hke : ([] ++ plan.take 0 ++ [s]) ++ ([] : List Shift) = insL plan 0 s := by unfold insL; rw [hdk]; simp
          clear hdk
          have HKE := hide hke; clear hke
          go_wp2_with fail
          have K0 : Below w2.heap.size w2 w2 := Below.refl _ _
          have HF := hide (fun (X : World) (hX : Below w2.heap.size w2 X) => show X.cell? ⟨w.heap.size, 0, none⟩ = some (.int .i64 s.day) ∧ X.cell? ⟨w.heap.size, 1, none⟩ = some (.int .i64 s.part) ∧ X.cell? ⟨w.heap.size, 2, none⟩ = some (.int .i64 s.who) ∧ X.cell? ⟨w.heap.size, 3, none⟩ = some (.int .i64 s.duty) from ⟨(hX.cell hS).trans z0, (hX.cell hS).trans z1, (hX.cell hS).trans z2, (hX.cell hS).trans z3⟩)
          go_region_held_law (fun w' => w'.cell? ⟨w.heap.size, 0, none⟩ = some (.int .i64 s.day) ∧ w'.cell? ⟨w.heap.size, 1, none⟩ = some (.int .i64 s.part) ∧ w'.cell? ⟨w.heap.size, 2, none⟩ = some (.int .i64 s.who) ∧ w'.cell? ⟨w.heap.size, 3, none⟩ = some (.int .i64 s.duty)) (exact HF.out _ (by repeat (first | assumption | exact Below.refl _ _ | refine Below.drew ?_ | refine Below.alloc ?_ (by first | omega | (simp; done) | (simp; omega)) _)))
            (first
              | (refine step_app rfl (.tmp 42) (.tmp 45) 38 66 rfl Try.underlying38 Shift.infoE rfl (by omega) (by omega) Shift.enc_len Shift.enc_one w2.heap.size _ 0 [] (plan.take 0) none 0 0 0 0 rfl (by omega) rfl (by simp [Act.eval, Act.put]) hkt (fun ad had => by cases had) (fun _ => ⟨rfl, rfl⟩) (by first | exact own_none (by first | rfl | simp) (by first | omega | simp) | exact World.ownsRow.alloc (own_none (by first | rfl | simp) (by first | omega | simp)) _) (by first | omega | (simp; done) | (simp; omega)) (by omega) ?_; intro Aa ca wa hoa hba hga; have KA : Below w2.heap.size w2 wa := (show Below w2.heap.size w2 _ from by repeat (first | assumption | exact Below.refl _ _ | refine Below.drew ?_ | refine Below.alloc ?_ (by first | omega | (simp; done) | (simp; omega)) _)).trans hba; have hKA : w2.heap.size ≤ wa.heap.size := KA.size)
              | (refine step_app rfl (.tmp 46) (.tmp 48) 38 66 rfl Try.underlying38 Shift.infoE rfl (by omega) (by omega) Shift.enc_len Shift.enc_one w2.heap.size _ ca ([] ++ plan.take 0) [s] (some ⟨_, 0, none⟩) 1 1 (0) (0 + 1) (by rw [List.nil_append]; exact hkt) rfl rfl (by simp [Act.eval, Act.put] <;> rfl) rfl (fun ad had j u hu => by cases had; first | exact box_of _ wa s _ rfl _ _ (by first | rfl | simp) j u hu | exact (hga.cell_far _ (by first | (simp [Addr.add_mid]; done) | (simp [Addr.add_mid]; omega)) (by first | (simp [Addr.add_mid, Value.ownBlock]; done) | (simp [Addr.add_mid, Value.ownBlock]; omega))).trans (box_of _ (w2.alloc (.cells #[] 66)) s _ rfl _ _ (by first | rfl | simp) j u hu) | exact (hga.cell_far _ (by first | (simp [Addr.add_mid]; done) | (simp [Addr.add_mid]; omega)) (by first | (simp [Addr.add_mid, Value.ownBlock]; done) | (simp [Addr.add_mid, Value.ownBlock]; omega))).trans ((World.cell?_alloc_lt _ _ _ (by simp [Addr.add_mid])).trans (box_of _ w2 s _ rfl _ _ (by first | rfl | simp) j u hu))) (fun h => by cases h) (by first | exact hoa | exact World.ownsRow.alloc hoa _) (by first | omega | (simp; done) | (simp; omega)) (by omega) ?_; intro Ab cb wb hob hbb hgb; have KB : Below w2.heap.size w2 wb := (show Below w2.heap.size w2 _ from by repeat (first | assumption | exact Below.refl _ _ | refine Below.drew ?_ | refine Below.alloc ?_ (by first | omega | (simp; done) | (simp; omega)) _)).trans hbb; have hKB : w2.heap.size ≤ wb.heap.size := KB.size)
              | (refine step_app rfl (.tmp 49) (.tmp 52) 38 66 rfl Try.underlying38 Shift.infoE rfl (by omega) (by omega) Shift.enc_len Shift.enc_one w2.heap.size _ cb ([] ++ plan.take 0 ++ [s]) (([] : List Shift)) none 0 0 (0 + 1) (0 + 1 + 0) (by rw [List.length_append, List.nil_append, hkt]; rfl) (by omega) rfl (by simp [Act.eval, Act.put]) rfl (fun ad had => by cases had) (fun _ => ⟨rfl, rfl⟩) (by first | exact hob | exact World.ownsRow.alloc hob _) (by first | omega | (simp; done) | (simp; omega)) (by omega) ?_; intro Ac cc wc hoc hbc hgc; have KC : Below w2.heap.size w2 wc := (show Below w2.heap.size w2 _ from by repeat (first | assumption | exact Below.refl _ _ | refine Below.drew ?_ | refine Below.alloc ?_ (by first | omega | (simp; done) | (simp; omega)) _)).trans hbc))
          all_goals
            rw [HKE.out] at hoc
            have BX := below_step B2 KC (Nat.le_refl _)
            go_wp2_with fail
            go_ret
            rw [HPOS.out]
            have hnn : plan.length + 1 = 0 + 1 + 0 := by omega
            try rw [hnn]
            exact ⟨Ac, cc, by first | (simp; done) | rfl, Own.mono_ hoc B2.size, BX⟩
        · by_cases hL : plan = []
          · have hL0 : plan.length = 0 := by rw [hL]; rfl
            have hk00 : k = 0 := by omega
            subst hk00; clear hkk
            have HLN := hide hL; clear hL
            by_cases hck : cap = 0
            · subst hck
              have hkt : (plan.take 0).length = 0 := by rw [List.length_take]; omega
              have hkd : (plan.drop 0).length = plan.length - 0 := by rw [List.length_drop]
              have hdk : plan.drop 0 = [] := by rw [List.drop_eq_nil_iff]; omega
              have hke : ([] ++ plan.take 0 ++ [s]) ++ ([] : List Shift) = insL plan 0 s := by unfold insL; rw [hdk]; simp
              clear hdk
              have HKE := hide hke; clear hke
              go_wp2_with fail
              have K0 : Below w2.heap.size w2 w2 := Below.refl _ _
              have HF := hide (fun (X : World) (hX : Below w2.heap.size w2 X) => show X.cell? ⟨w.heap.size, 0, none⟩ = some (.int .i64 s.day) ∧ X.cell? ⟨w.heap.size, 1, none⟩ = some (.int .i64 s.part) ∧ X.cell? ⟨w.heap.size, 2, none⟩ = some (.int .i64 s.who) ∧ X.cell? ⟨w.heap.size, 3, none⟩ = some (.int .i64 s.duty) from ⟨(hX.cell hS).trans z0, (hX.cell hS).trans z1, (hX.cell hS).trans z2, (hX.cell hS).trans z3⟩)
              go_region_held_law (fun w' => w'.cell? ⟨w.heap.size, 0, none⟩ = some (.int .i64 s.day) ∧ w'.cell? ⟨w.heap.size, 1, none⟩ = some (.int .i64 s.part) ∧ w'.cell? ⟨w.heap.size, 2, none⟩ = some (.int .i64 s.who) ∧ w'.cell? ⟨w.heap.size, 3, none⟩ = some (.int .i64 s.duty)) (exact HF.out _ (by repeat (first | assumption | exact Below.refl _ _ | refine Below.drew ?_ | refine Below.alloc ?_ (by first | omega | (simp; done) | (simp; omega)) _)))
                (first
                  | (refine step_app rfl (.tmp 42) (.tmp 45) 38 66 rfl Try.underlying38 Shift.infoE rfl (by omega) (by omega) Shift.enc_len Shift.enc_one w2.heap.size _ 0 [] (plan.take 0) (some ad) 0 0 0 0 rfl (by omega) rfl (by simp [Act.eval, Act.put]) hkt (fun ad had j u hu => by simp at hu) (fun h => by cases h) (by first | exact own_none (by first | rfl | simp) (by first | omega | simp) | exact World.ownsRow.alloc (own_none (by first | rfl | simp) (by first | omega | simp)) _) (by first | omega | (simp; done) | (simp; omega)) (by omega) ?_; intro Aa ca wa hoa hba hga; have KA : Below w2.heap.size w2 wa := (show Below w2.heap.size w2 _ from by repeat (first | assumption | exact Below.refl _ _ | refine Below.drew ?_ | refine Below.alloc ?_ (by first | omega | (simp; done) | (simp; omega)) _)).trans hba; have hKA : w2.heap.size ≤ wa.heap.size := KA.size)
                  | (refine step_app rfl (.tmp 46) (.tmp 48) 38 66 rfl Try.underlying38 Shift.infoE rfl (by omega) (by omega) Shift.enc_len Shift.enc_one w2.heap.size _ ca ([] ++ plan.take 0) [s] (some ⟨_, 0, none⟩) 1 1 (0) (0 + 1) (by rw [List.nil_append]; exact hkt) rfl rfl (by simp [Act.eval, Act.put] <;> rfl) rfl (fun ad had j u hu => by cases had; first | exact box_of _ wa s _ rfl _ _ (by first | rfl | simp) j u hu | exact (hga.cell_far _ (by first | (simp [Addr.add_mid]; done) | (simp [Addr.add_mid]; omega)) (by first | (simp [Addr.add_mid, Value.ownBlock]; done) | (simp [Addr.add_mid, Value.ownBlock]; omega))).trans (box_of _ (w2.alloc (.cells #[] 66)) s _ rfl _ _ (by first | rfl | simp) j u hu) | exact (hga.cell_far _ (by first | (simp [Addr.add_mid]; done) | (simp [Addr.add_mid]; omega)) (by first | (simp [Addr.add_mid, Value.ownBlock]; done) | (simp [Addr.add_mid, Value.ownBlock]; omega))).trans ((World.cell?_alloc_lt _ _ _ (by simp [Addr.add_mid])).trans (box_of _ w2 s _ rfl _ _ (by first | rfl | simp) j u hu))) (fun h => by cases h) (by first | exact hoa | exact World.ownsRow.alloc hoa _) (by first | omega | (simp; done) | (simp; omega)) (by omega) ?_; intro Ab cb wb hob hbb hgb; have KB : Below w2.heap.size w2 wb := (show Below w2.heap.size w2 _ from by repeat (first | assumption | exact Below.refl _ _ | refine Below.drew ?_ | refine Below.alloc ?_ (by first | omega | (simp; done) | (simp; omega)) _)).trans hbb; have hKB : w2.heap.size ≤ wb.heap.size := KB.size)
                  | (refine step_app rfl (.tmp 49) (.tmp 52) 38 66 rfl Try.underlying38 Shift.infoE rfl (by omega) (by omega) Shift.enc_len Shift.enc_one w2.heap.size _ cb ([] ++ plan.take 0 ++ [s]) (([] : List Shift)) (some ad) 0 0 (0 + 1) (0 + 1 + 0) (by rw [List.length_append, List.nil_append, hkt]; rfl) (by omega) rfl (by simp [Act.eval, Act.put]) rfl (fun ad had j u hu => by simp at hu) (fun h => by cases h) (by first | exact hob | exact World.ownsRow.alloc hob _) (by first | omega | (simp; done) | (simp; omega)) (by omega) ?_; intro Ac cc wc hoc hbc hgc; have KC : Below w2.heap.size w2 wc := (show Below w2.heap.size w2 _ from by repeat (first | assumption | exact Below.refl _ _ | refine Below.drew ?_ | refine Below.alloc ?_ (by first | omega | (simp; done) | (simp; omega)) _)).trans hbc))
              all_goals
                rw [HKE.out] at hoc
                have BX := below_step B2 KC (Nat.le_refl _)
                go_wp2_with fail
                go_ret
                rw [HPOS.out]
                have hnn : plan.length + 1 = 0 + 1 + 0 := by omega
                try rw [hnn]
                exact ⟨Ac, cc, by first | (simp; done) | rfl, Own.mono_ hoc B2.size, BX⟩
            · have hck3 : ¬ 0 = cap := fun h => hck h.symm
              have hkt : (plan.take 0).length = 0 := by rw [List.length_take]; omega
              have hkd : (plan.drop 0).length = plan.length - 0 := by rw [List.length_drop]
              have hdk : plan.drop 0 = [] := by rw [List.drop_eq_nil_iff]; omega
              have hke : ([] ++ plan.take 0 ++ [s]) ++ ([] : List Shift) = insL plan 0 s := by unfold insL; rw [hdk]; simp
              clear hdk
              have HKE := hide hke; clear hke
              go_wp2_with fail
              have K0 : Below w2.heap.size w2 w2 := Below.refl _ _
              have HF := hide (fun (X : World) (hX : Below w2.heap.size w2 X) => show X.cell? ⟨w.heap.size, 0, none⟩ = some (.int .i64 s.day) ∧ X.cell? ⟨w.heap.size, 1, none⟩ = some (.int .i64 s.part) ∧ X.cell? ⟨w.heap.size, 2, none⟩ = some (.int .i64 s.who) ∧ X.cell? ⟨w.heap.size, 3, none⟩ = some (.int .i64 s.duty) from ⟨(hX.cell hS).trans z0, (hX.cell hS).trans z1, (hX.cell hS).trans z2, (hX.cell hS).trans z3⟩)
              go_region_held_law (fun w' => w'.cell? ⟨w.heap.size, 0, none⟩ = some (.int .i64 s.day) ∧ w'.cell? ⟨w.heap.size, 1, none⟩ = some (.int .i64 s.part) ∧ w'.cell? ⟨w.heap.size, 2, none⟩ = some (.int .i64 s.who) ∧ w'.cell? ⟨w.heap.size, 3, none⟩ = some (.int .i64 s.duty)) (exact HF.out _ (by repeat (first | assumption | exact Below.refl _ _ | refine Below.drew ?_ | refine Below.alloc ?_ (by first | omega | (simp; done) | (simp; omega)) _)))
                (first
                  | (refine step_app rfl (.tmp 42) (.tmp 45) 38 66 rfl Try.underlying38 Shift.infoE rfl (by omega) (by omega) Shift.enc_len Shift.enc_one w2.heap.size _ 0 [] (plan.take 0) (some ad) 0 cap 0 0 rfl (by omega) rfl (by simp [Act.eval, Act.put]) hkt (fun ad had j u hu => by simp at hu) (fun h => by cases h) (by first | exact own_none (by first | rfl | simp) (by first | omega | simp) | exact World.ownsRow.alloc (own_none (by first | rfl | simp) (by first | omega | simp)) _) (by first | omega | (simp; done) | (simp; omega)) (by omega) ?_; intro Aa ca wa hoa hba hga; have KA : Below w2.heap.size w2 wa := (show Below w2.heap.size w2 _ from by repeat (first | assumption | exact Below.refl _ _ | refine Below.drew ?_ | refine Below.alloc ?_ (by first | omega | (simp; done) | (simp; omega)) _)).trans hba; have hKA : w2.heap.size ≤ wa.heap.size := KA.size)
                  | (refine step_app rfl (.tmp 46) (.tmp 48) 38 66 rfl Try.underlying38 Shift.infoE rfl (by omega) (by omega) Shift.enc_len Shift.enc_one w2.heap.size _ ca ([] ++ plan.take 0) [s] (some ⟨_, 0, none⟩) 1 1 (0) (0 + 1) (by rw [List.nil_append]; exact hkt) rfl rfl (by simp [Act.eval, Act.put] <;> rfl) rfl (fun ad had j u hu => by cases had; first | exact box_of _ wa s _ rfl _ _ (by first | rfl | simp) j u hu | exact (hga.cell_far _ (by first | (simp [Addr.add_mid]; done) | (simp [Addr.add_mid]; omega)) (by first | (simp [Addr.add_mid, Value.ownBlock]; done) | (simp [Addr.add_mid, Value.ownBlock]; omega))).trans (box_of _ (w2.alloc (.cells #[] 66)) s _ rfl _ _ (by first | rfl | simp) j u hu) | exact (hga.cell_far _ (by first | (simp [Addr.add_mid]; done) | (simp [Addr.add_mid]; omega)) (by first | (simp [Addr.add_mid, Value.ownBlock]; done) | (simp [Addr.add_mid, Value.ownBlock]; omega))).trans ((World.cell?_alloc_lt _ _ _ (by simp [Addr.add_mid])).trans (box_of _ w2 s _ rfl _ _ (by first | rfl | simp) j u hu))) (fun h => by cases h) (by first | exact hoa | exact World.ownsRow.alloc hoa _) (by first | omega | (simp; done) | (simp; omega)) (by omega) ?_; intro Ab cb wb hob hbb hgb; have KB : Below w2.heap.size w2 wb := (show Below w2.heap.size w2 _ from by repeat (first | assumption | exact Below.refl _ _ | refine Below.drew ?_ | refine Below.alloc ?_ (by first | omega | (simp; done) | (simp; omega)) _)).trans hbb; have hKB : w2.heap.size ≤ wb.heap.size := KB.size)
                  | (refine step_app rfl (.tmp 49) (.tmp 52) 38 66 rfl Try.underlying38 Shift.infoE rfl (by omega) (by omega) Shift.enc_len Shift.enc_one w2.heap.size _ cb ([] ++ plan.take 0 ++ [s]) (([] : List Shift)) (some ad) 0 cap (0 + 1) (0 + 1 + 0) (by rw [List.length_append, List.nil_append, hkt]; rfl) (by omega) rfl (by simp [Act.eval, Act.put]) rfl (fun ad had j u hu => by simp at hu) (fun h => by cases h) (by first | exact hob | exact World.ownsRow.alloc hob _) (by first | omega | (simp; done) | (simp; omega)) (by omega) ?_; intro Ac cc wc hoc hbc hgc; have KC : Below w2.heap.size w2 wc := (show Below w2.heap.size w2 _ from by repeat (first | assumption | exact Below.refl _ _ | refine Below.drew ?_ | refine Below.alloc ?_ (by first | omega | (simp; done) | (simp; omega)) _)).trans hbc))
              all_goals
                rw [HKE.out] at hoc
                have BX := below_step B2 KC (Nat.le_refl _)
                go_wp2_with fail
                go_ret
                rw [HPOS.out]
                have hnn : plan.length + 1 = 0 + 1 + 0 := by omega
                try rw [hnn]
                exact ⟨Ac, cc, by first | (simp; done) | rfl, Own.mono_ hoc B2.size, BX⟩
          · obtain ⟨b, o, hA, hbw2, hct, _⟩ := rd_part Shift.enc_len (r1.later B2) hL k
            cases hA; clear hkk
            by_cases hck : cap = k
            · have hck2 := hck.symm; clear hck
              subst hck2
              have hkt : (plan.take k).length = k := by rw [List.length_take]; omega
              have hkd : (plan.drop k).length = plan.length - k := by rw [List.length_drop]
              have hk0 : (0 : Int) ≤ (k : Int) := by omega
              have hkl : (k : Int) ≤ (plan.length : Int) := by omega
              have hkc : k ≤ k := by omega
              have hdk : plan.drop k = [] := by rw [List.drop_eq_nil_iff]; omega
              have hke : ([] ++ plan.take k ++ [s]) ++ ([] : List Shift) = insL plan k s := by unfold insL; rw [hdk]; simp
              clear hdk
              have HKE := hide hke; clear hke
              go_wp2_with fail
              have K0 : Below w2.heap.size w2 w2 := Below.refl _ _
              have HF := hide (fun (X : World) (hX : Below w2.heap.size w2 X) => show X.cell? ⟨w.heap.size, 0, none⟩ = some (.int .i64 s.day) ∧ X.cell? ⟨w.heap.size, 1, none⟩ = some (.int .i64 s.part) ∧ X.cell? ⟨w.heap.size, 2, none⟩ = some (.int .i64 s.who) ∧ X.cell? ⟨w.heap.size, 3, none⟩ = some (.int .i64 s.duty) from ⟨(hX.cell hS).trans z0, (hX.cell hS).trans z1, (hX.cell hS).trans z2, (hX.cell hS).trans z3⟩)
              go_region_held_law (fun w' => w'.cell? ⟨w.heap.size, 0, none⟩ = some (.int .i64 s.day) ∧ w'.cell? ⟨w.heap.size, 1, none⟩ = some (.int .i64 s.part) ∧ w'.cell? ⟨w.heap.size, 2, none⟩ = some (.int .i64 s.who) ∧ w'.cell? ⟨w.heap.size, 3, none⟩ = some (.int .i64 s.duty)) (exact HF.out _ (by repeat (first | assumption | exact Below.refl _ _ | refine Below.drew ?_ | refine Below.alloc ?_ (by first | omega | (simp; done) | (simp; omega)) _)))
                (first
                  | (refine step_app rfl (.tmp 42) (.tmp 45) 38 66 rfl Try.underlying38 Shift.infoE rfl (by omega) (by omega) Shift.enc_len Shift.enc_one w2.heap.size _ 0 [] (plan.take k) (some ⟨b, o, none⟩) k k 0 k rfl (by omega) rfl (by simp [Act.eval, Act.put]) hkt (fun ad had j u hu => by cases had; rw [Addr.add_mid]; exact ((show Below w2.heap.size w2 _ from by repeat (first | assumption | exact Below.refl _ _ | refine Below.drew ?_ | refine Below.alloc ?_ (by first | omega | (simp; done) | (simp; omega)) _)).cell hbw2).trans (hct j u hu)) (fun h => by cases h) (by first | exact own_none (by first | rfl | simp) (by first | omega | simp) | exact World.ownsRow.alloc (own_none (by first | rfl | simp) (by first | omega | simp)) _) (by first | omega | (simp; done) | (simp; omega)) (by omega) ?_; intro Aa ca wa hoa hba hga; have KA : Below w2.heap.size w2 wa := (show Below w2.heap.size w2 _ from by repeat (first | assumption | exact Below.refl _ _ | refine Below.drew ?_ | refine Below.alloc ?_ (by first | omega | (simp; done) | (simp; omega)) _)).trans hba; have hKA : w2.heap.size ≤ wa.heap.size := KA.size)
                  | (refine step_app rfl (.tmp 46) (.tmp 48) 38 66 rfl Try.underlying38 Shift.infoE rfl (by omega) (by omega) Shift.enc_len Shift.enc_one w2.heap.size _ ca ([] ++ plan.take k) [s] (some ⟨_, 0, none⟩) 1 1 (k) (k + 1) (by rw [List.nil_append]; exact hkt) rfl rfl (by simp [Act.eval, Act.put] <;> rfl) rfl (fun ad had j u hu => by cases had; first | exact box_of _ wa s _ rfl _ _ (by first | rfl | simp) j u hu | exact (hga.cell_far _ (by first | (simp [Addr.add_mid]; done) | (simp [Addr.add_mid]; omega)) (by first | (simp [Addr.add_mid, Value.ownBlock]; done) | (simp [Addr.add_mid, Value.ownBlock]; omega))).trans (box_of _ (w2.alloc (.cells #[] 66)) s _ rfl _ _ (by first | rfl | simp) j u hu) | exact (hga.cell_far _ (by first | (simp [Addr.add_mid]; done) | (simp [Addr.add_mid]; omega)) (by first | (simp [Addr.add_mid, Value.ownBlock]; done) | (simp [Addr.add_mid, Value.ownBlock]; omega))).trans ((World.cell?_alloc_lt _ _ _ (by simp [Addr.add_mid])).trans (box_of _ w2 s _ rfl _ _ (by first | rfl | simp) j u hu))) (fun h => by cases h) (by first | exact hoa | exact World.ownsRow.alloc hoa _) (by first | omega | (simp; done) | (simp; omega)) (by omega) ?_; intro Ab cb wb hob hbb hgb; have KB : Below w2.heap.size w2 wb := (show Below w2.heap.size w2 _ from by repeat (first | assumption | exact Below.refl _ _ | refine Below.drew ?_ | refine Below.alloc ?_ (by first | omega | (simp; done) | (simp; omega)) _)).trans hbb; have hKB : w2.heap.size ≤ wb.heap.size := KB.size)
                  | (refine step_app rfl (.tmp 49) (.tmp 52) 38 66 rfl Try.underlying38 Shift.infoE rfl (by omega) (by omega) Shift.enc_len Shift.enc_one w2.heap.size _ cb ([] ++ plan.take k ++ [s]) (([] : List Shift)) (some ⟨b, o, none⟩) 0 0 (k + 1) (k + 1 + 0) (by rw [List.length_append, List.nil_append, hkt]; rfl) (by omega) rfl (by simp [Act.eval, Act.put]) rfl (fun ad had j u hu => by simp at hu) (fun h => by cases h) (by first | exact hob | exact World.ownsRow.alloc hob _) (by first | omega | (simp; done) | (simp; omega)) (by omega) ?_; intro Ac cc wc hoc hbc hgc; have KC : Below w2.heap.size w2 wc := (show Below w2.heap.size w2 _ from by repeat (first | assumption | exact Below.refl _ _ | refine Below.drew ?_ | refine Below.alloc ?_ (by first | omega | (simp; done) | (simp; omega)) _)).trans hbc))
              all_goals
                rw [HKE.out] at hoc
                have BX := below_step B2 KC (Nat.le_refl _)
                go_wp2_with fail
                go_ret
                rw [HPOS.out]
                have hnn : plan.length + 1 = k + 1 + 0 := by omega
                try rw [hnn]
                exact ⟨Ac, cc, by first | (simp; done) | rfl, Own.mono_ hoc B2.size, BX⟩
            · have hck3 : ¬ k = cap := fun h => hck h.symm
              have hkt : (plan.take k).length = k := by rw [List.length_take]; omega
              have hkd : (plan.drop k).length = plan.length - k := by rw [List.length_drop]
              have hk0 : (0 : Int) ≤ (k : Int) := by omega
              have hkl : (k : Int) ≤ (plan.length : Int) := by omega
              have hkc : k ≤ cap := by omega
              have hdk : plan.drop k = [] := by rw [List.drop_eq_nil_iff]; omega
              have hke : ([] ++ plan.take k ++ [s]) ++ ([] : List Shift) = insL plan k s := by unfold insL; rw [hdk]; simp
              clear hdk
              have HKE := hide hke; clear hke
              go_wp2_with fail
              have K0 : Below w2.heap.size w2 w2 := Below.refl _ _
              have HF := hide (fun (X : World) (hX : Below w2.heap.size w2 X) => show X.cell? ⟨w.heap.size, 0, none⟩ = some (.int .i64 s.day) ∧ X.cell? ⟨w.heap.size, 1, none⟩ = some (.int .i64 s.part) ∧ X.cell? ⟨w.heap.size, 2, none⟩ = some (.int .i64 s.who) ∧ X.cell? ⟨w.heap.size, 3, none⟩ = some (.int .i64 s.duty) from ⟨(hX.cell hS).trans z0, (hX.cell hS).trans z1, (hX.cell hS).trans z2, (hX.cell hS).trans z3⟩)
              go_region_held_law (fun w' => w'.cell? ⟨w.heap.size, 0, none⟩ = some (.int .i64 s.day) ∧ w'.cell? ⟨w.heap.size, 1, none⟩ = some (.int .i64 s.part) ∧ w'.cell? ⟨w.heap.size, 2, none⟩ = some (.int .i64 s.who) ∧ w'.cell? ⟨w.heap.size, 3, none⟩ = some (.int .i64 s.duty)) (exact HF.out _ (by repeat (first | assumption | exact Below.refl _ _ | refine Below.drew ?_ | refine Below.alloc ?_ (by first | omega | (simp; done) | (simp; omega)) _)))
                (first
                  | (refine step_app rfl (.tmp 42) (.tmp 45) 38 66 rfl Try.underlying38 Shift.infoE rfl (by omega) (by omega) Shift.enc_len Shift.enc_one w2.heap.size _ 0 [] (plan.take k) (some ⟨b, o, none⟩) k cap 0 k rfl (by omega) rfl (by simp [Act.eval, Act.put]) hkt (fun ad had j u hu => by cases had; rw [Addr.add_mid]; exact ((show Below w2.heap.size w2 _ from by repeat (first | assumption | exact Below.refl _ _ | refine Below.drew ?_ | refine Below.alloc ?_ (by first | omega | (simp; done) | (simp; omega)) _)).cell hbw2).trans (hct j u hu)) (fun h => by cases h) (by first | exact own_none (by first | rfl | simp) (by first | omega | simp) | exact World.ownsRow.alloc (own_none (by first | rfl | simp) (by first | omega | simp)) _) (by first | omega | (simp; done) | (simp; omega)) (by omega) ?_; intro Aa ca wa hoa hba hga; have KA : Below w2.heap.size w2 wa := (show Below w2.heap.size w2 _ from by repeat (first | assumption | exact Below.refl _ _ | refine Below.drew ?_ | refine Below.alloc ?_ (by first | omega | (simp; done) | (simp; omega)) _)).trans hba; have hKA : w2.heap.size ≤ wa.heap.size := KA.size)
                  | (refine step_app rfl (.tmp 46) (.tmp 48) 38 66 rfl Try.underlying38 Shift.infoE rfl (by omega) (by omega) Shift.enc_len Shift.enc_one w2.heap.size _ ca ([] ++ plan.take k) [s] (some ⟨_, 0, none⟩) 1 1 (k) (k + 1) (by rw [List.nil_append]; exact hkt) rfl rfl (by simp [Act.eval, Act.put] <;> rfl) rfl (fun ad had j u hu => by cases had; first | exact box_of _ wa s _ rfl _ _ (by first | rfl | simp) j u hu | exact (hga.cell_far _ (by first | (simp [Addr.add_mid]; done) | (simp [Addr.add_mid]; omega)) (by first | (simp [Addr.add_mid, Value.ownBlock]; done) | (simp [Addr.add_mid, Value.ownBlock]; omega))).trans (box_of _ (w2.alloc (.cells #[] 66)) s _ rfl _ _ (by first | rfl | simp) j u hu) | exact (hga.cell_far _ (by first | (simp [Addr.add_mid]; done) | (simp [Addr.add_mid]; omega)) (by first | (simp [Addr.add_mid, Value.ownBlock]; done) | (simp [Addr.add_mid, Value.ownBlock]; omega))).trans ((World.cell?_alloc_lt _ _ _ (by simp [Addr.add_mid])).trans (box_of _ w2 s _ rfl _ _ (by first | rfl | simp) j u hu))) (fun h => by cases h) (by first | exact hoa | exact World.ownsRow.alloc hoa _) (by first | omega | (simp; done) | (simp; omega)) (by omega) ?_; intro Ab cb wb hob hbb hgb; have KB : Below w2.heap.size w2 wb := (show Below w2.heap.size w2 _ from by repeat (first | assumption | exact Below.refl _ _ | refine Below.drew ?_ | refine Below.alloc ?_ (by first | omega | (simp; done) | (simp; omega)) _)).trans hbb; have hKB : w2.heap.size ≤ wb.heap.size := KB.size)
                  | (refine step_app rfl (.tmp 49) (.tmp 52) 38 66 rfl Try.underlying38 Shift.infoE rfl (by omega) (by omega) Shift.enc_len Shift.enc_one w2.heap.size _ cb ([] ++ plan.take k ++ [s]) (([] : List Shift)) (some ⟨b, o + k * 4, none⟩) 0 (cap - k) (k + 1) (k + 1 + 0) (by rw [List.length_append, List.nil_append, hkt]; rfl) (by omega) rfl (by simp [Act.eval, Act.put]) rfl (fun ad had j u hu => by simp at hu) (fun h => by cases h) (by first | exact hob | exact World.ownsRow.alloc hob _) (by first | omega | (simp; done) | (simp; omega)) (by omega) ?_; intro Ac cc wc hoc hbc hgc; have KC : Below w2.heap.size w2 wc := (show Below w2.heap.size w2 _ from by repeat (first | assumption | exact Below.refl _ _ | refine Below.drew ?_ | refine Below.alloc ?_ (by first | omega | (simp; done) | (simp; omega)) _)).trans hbc))
              all_goals
                rw [HKE.out] at hoc
                have BX := below_step B2 KC (Nat.le_refl _)
                go_wp2_with fail
                go_ret
                rw [HPOS.out]
                have hnn : plan.length + 1 = k + 1 + 0 := by omega
                try rw [hnn]
                exact ⟨Ac, cc, by first | (simp; done) | rfl, Own.mono_ hoc B2.size, BX⟩
end Go.Proofs.Ytfaicjlpncidgaa
