/- ParseGrip: both packages. The tables (powers of ten, names), the variables MaxLen and ErrSyntax are as the row's list and the variables' types say. -/
import Derived.Test.YtkdnkhbcbcffeaaDoorPgR
import Derived.Test.YtkdnkhbcbcffeaaDoorSetC
import Derived.Deep.RegionHeldLaw
import Derived.Deep.RegionHeld3
import Derived.Deep.DeepCutAuto
namespace Go.Proofs.YtkdnkhbcbcffeaaDoor
open Go Go.RowKit
set_option linter.unusedVariables false
set_option linter.unusedSimpArgs false
theorem GripState.one_cells {lo p : Nat} {w : World} {c : GripState} (h : Own GripState.enc 4 26 lo w (.slice (some ⟨p, 0, none⟩) 1 1) [c]) : w.cell? ⟨p, 0, none⟩ = some (.int .i64 c.state) ∧ w.cell? ⟨p, 1, none⟩ = some (.int .i64 c.zone) ∧ w.cell? ⟨p, 2, none⟩ = some (.int .i64 c.force) ∧ w.cell? ⟨p, 3, none⟩ = some (.int .i64 c.fails) :=
  ⟨own_cell h (flat_get GripState.enc_len [c] 0 c rfl 0 _ rfl), own_cell h (flat_get GripState.enc_len [c] 0 c rfl 1 _ rfl), own_cell h (flat_get GripState.enc_len [c] 0 c rfl 2 _ rfl), own_cell h (flat_get GripState.enc_len [c] 0 c rfl 3 _ rfl)⟩
theorem GripState.one_heap {lo p : Nat} {w : World} {c : GripState} (h : Own GripState.enc 4 26 lo w (.slice (some ⟨p, 0, none⟩) 1 1) [c]) : w.heap[p]? = some (.cells #[.int .i64 c.state, .int .i64 c.zone, .int .i64 c.force, .int .i64 c.fails] 26 (0, 0)) := by
  rcases h.2 with ⟨hv, _⟩ | ⟨g, c2, cur, hv, _, hh, _, _, hsz, htk⟩
  · cases hv
  · cases hv
    rw [hh]
    have e : cur.toList = GripState.enc c := by
      have e2 : cur.toList.take (1 * 4) = [c].flatMap GripState.enc := htk
      rw [List.take_of_length_le (by rw [Array.length_toList]; omega)] at e2
      rw [e2]; simp
    have e3 : cur = #[.int .i64 c.state, .int .i64 c.zone, .int .i64 c.force, .int .i64 c.fails] := by rw [← Array.toArray_toList (xs := cur), e]; rfl
    rw [e3]
theorem results_rt {P : Program} {fn : Func} {x p : Tmp} {ty : TypeId} (h : fn.results = #[.cell p ty, .tmp x]) (tmps : Array Value) (w : World) (g : Nat) (t : TypeId) (cs : Array Value) (fr : Nat × Nat) (d : TypeDesc)
    (hp : tmps.getD p undef = .pointer (some ⟨g, 0, none⟩)) (hg : w.heap[g]? = some (.cells cs t fr))
    (hu : P.underlying ty = some d) (hd : (match d with | .struct _ | .array _ _ => true | _ => false) = true) (hi : (P.info? ty).map (·.size) = some cs.size) :
    (results fn tmps).run P w = .ok (.tuple #[.agg cs, tmps.getD x undef]) w := by
  have hp' : tmps[p]?.getD undef = .pointer (some ⟨g, 0, none⟩) := by simpa using hp
  simp [results, h, hp', asAddr, run_loadVar_row w g t ty cs fr d hg hu hd hi]
theorem own_ge {lo g n c : Nat} {w : World} {L : List GripState} (h : Own GripState.enc 4 26 lo w (.slice (some ⟨g, 0, none⟩) n c) L) : lo ≤ g := by
  rcases h.2 with ⟨hv, _⟩ | ⟨q, c2, cur, hv, h1, _⟩
  · cases hv
  · cases hv; exact h1
theorem set_keepG {w : World} {lo g g2 k : Nat} {u : Value} {L : List GripState} (h : Own GripState.enc 4 26 lo w (.slice (some ⟨g, 0, none⟩) 1 1) L) (hne : g ≠ g2) : Own GripState.enc 4 26 lo (w.setCell ⟨g2, k, none⟩ u) (.slice (some ⟨g, 0, none⟩) 1 1) L :=
  World.ownsRow.kept h (grown_set (World.grownBy.refl w (some g2))) (.inr (by simpa [Value.ownBlock] using hne))
theorem isg_is {st zn fo : Int} {g : GripState} {r : Bool} (hg : g = ⟨st, zn, fo, 0⟩) (hr : gripB g = r) (w : World) : Calls Tryd.prog 13 #[.agg #[.int .i64 st, .int .i64 zn, .int .i64 fo, .int .i64 0]] w fun e w' => e = .returned (.bool r) ∧ Below w.heap.size w w' := by
  subst hg; subst hr; exact IsGripState_any ⟨st, zn, fo, 0⟩ w
theorem gtx_is {st zn fo : Int} {g : GripState} {x : ByteArray} (hg : g = ⟨st, zn, fo, 0⟩) (hx : gtxF g = x) (w : World) (h1 : 0 ≤ st ∧ st ≤ 4) (h2 : 0 ≤ zn ∧ zn ≤ 3) (h3 : 0 ≤ fo ∧ fo ≤ 2000) (ht : Tab10 w) (hn : NamesIs w) : Calls Tryd.prog 14 #[.agg #[.int .i64 st, .int .i64 zn, .int .i64 fo, .int .i64 0]] w fun e w' => e = .returned (.string x) ∧ Below w.heap.size w w' := by
  subst hg; subst hx; exact gripText_any ⟨st, zn, fo, 0⟩ w ⟨h1, h2, h3.1, by show fo ≤ 999999; omega⟩ ht hn
def MaxIs (w : World) : Prop := ∃ m : Int, w.cell? ⟨2, 0, none⟩ = some (.int .i64 m)
theorem MaxIs.below {w w' : World} (h : MaxIs w) (hb : Below w.heap.size w w') : MaxIs w' := by
  obtain ⟨m, h⟩ := h
  exact ⟨m, below_cell hb h⟩
theorem below_drws (w : World) (n : Nat) : Below w.heap.size w (w.drewN n) := ⟨rfl, rfl, rfl, Nat.le_refl _, fun _ _ => rfl⟩
def cutA (s sep : ByteArray) : ByteArray := ⟨(Lib.cut s.data.toList sep.data.toList).1.toArray⟩
def cutB (s sep : ByteArray) : ByteArray := ⟨(Lib.cut s.data.toList sep.data.toList).2.1.toArray⟩
theorem cutB_size (s sep : ByteArray) : (cutB s sep).size ≤ s.size := by
  have h : (cutB s sep).size = (Lib.cut s.data.toList sep.data.toList).2.1.length := by simp [cutB, ByteArray.size]
  have h2 : s.size = s.data.toList.length := by simp
  rw [h, h2]
  unfold Lib.cut
  split
  · simp
  · simp
theorem pgG_is (s : ByteArray) : pgG s = ⟨Lib.idxOfS stNs (cutA s inT), Lib.idxOfS znNs (cutA (cutB s inT) withT), piV (cutB (cutB s inT) withT), 0⟩ := by
  unfold pgG cutA cutB; simp
theorem Cut_any (s sep : ByteArray) (w : World) (hs : s.size ≤ 1048576) (hm : MaxIs w) :
    Calls Tryd.prog 17 #[.string s, .string sep] w fun e w' => (∃ b : Bool, e = .returned (.tuple #[.string (cutA s sep), .string (cutB s sep), .bool b])) ∧ Below w.heap.size w w' := by
  obtain ⟨m, hm⟩ := hm
  exact (Tryd.strings_Cut s sep m w (by omega) hm).mono fun e w' ⟨he, n, hw⟩ => ⟨⟨_, he⟩, hw ▸ below_drws w n⟩
theorem IdxSt_any (x : ByteArray) (w : World) (hn : NamesIs w) : Calls Tryd.prog 18 #[.slice (some ⟨0, 0, none⟩) 5 5, .string x] w fun e w' => e = .returned (.int .i64 (Lib.idxOfS stNs x)) ∧ w = w' :=
  (Tryd.slices_Index_string 0 0 5 5 stNs x w (Nat.le_refl 5) (by decide) (fun j hj => by
    have := hn.1 j _ (List.getElem?_eq_getElem hj)
    rw [Nat.zero_add, this, List.getD_eq_getElem?_getD, List.getElem?_eq_getElem hj]; rfl)).mono fun e w' ⟨he, hw⟩ => ⟨he, hw.symm⟩
theorem IdxZn_any (x : ByteArray) (w : World) (hn : NamesIs w) : Calls Tryd.prog 18 #[.slice (some ⟨1, 0, none⟩) 4 4, .string x] w fun e w' => e = .returned (.int .i64 (Lib.idxOfS znNs x)) ∧ w = w' :=
  (Tryd.slices_Index_string 1 0 4 4 znNs x w (Nat.le_refl 4) (by decide) (fun j hj => by
    have := hn.2 j _ (List.getElem?_eq_getElem hj)
    rw [Nat.zero_add, this, List.getD_eq_getElem?_getD, List.getElem?_eq_getElem hj]; rfl)).mono fun e w' ⟨he, hw⟩ => ⟨he, hw.symm⟩
set_option maxRecDepth 100000 in
set_option maxHeartbeats 1000000 in
theorem ParseGrip_any (s : ByteArray) (w : World) (hs : s.size ≤ 1048576) (ht : Tab10 w) (hn : NamesIs w) (hm : MaxIs w) (he : ErrIs w) :
    Calls Tryd.prog 9 #[.string s] w fun e w' => e = .returned (.tuple #[.agg #[.int .i64 (pgV s).state, .int .i64 (pgV s).zone, .int .i64 (pgV s).force, .int .i64 (pgV s).fails], .bool (pgB s)]) ∧ Below w.heap.size w w' := by
  have hR : Own GripState.enc 4 26 w.heap.size (w.alloc (.cells #[.int .i64 0, .int .i64 0, .int .i64 0, .int .i64 0] 26)) (.slice (some ⟨w.heap.size, 0, none⟩) 1 1) [(⟨0, 0, 0, 0⟩ : GripState)] := World.ownsRow_lit (e := 26) (size := 4) w #[.int .i64 0, .int .i64 0, .int .i64 0, .int .i64 0] 1 (Nat.le_refl _) (by decide) rfl
  have HB : Below w.heap.size w (w.alloc (.cells #[.int .i64 0, .int .i64 0, .int .i64 0, .int .i64 0] 26)) := (Below.refl _ _).alloc (Nat.le_refl _) _
  have hsz : (w.alloc (.cells #[.int .i64 0, .int .i64 0, .int .i64 0, .int .i64 0] 26)).heap.size = w.heap.size + 1 := by simp
  have hb2 := cutB_size s inT
  obtain ⟨A1, hA1⟩ : ∃ x, cutA s inT = x := ⟨_, rfl⟩
  obtain ⟨R1, hR1⟩ : ∃ x, cutB s inT = x := ⟨_, rfl⟩
  obtain ⟨Z1, hZ1⟩ : ∃ x, cutA R1 withT = x := ⟨_, rfl⟩
  obtain ⟨F1, hF1⟩ : ∃ x, cutB R1 withT = x := ⟨_, rfl⟩
  have HG := hide (show pgG s = ⟨Lib.idxOfS stNs A1, Lib.idxOfS znNs Z1, piV F1, 0⟩ by rw [pgG_is, hA1, hR1, hZ1, hF1])
  have hs2 : R1.size ≤ 1048576 := by rw [← hR1]; omega
  have HA1 := hide hA1; have HR1 := hide hR1; have HZ1 := hide hZ1; have HF1 := hide hF1
  clear hA1 hR1 hZ1 hF1 hb2
  have HS := hide hs
  go_enter Tryd.func9, Tryd.ntmps9
  go_wp2_with fail
  generalize (w.alloc (.cells #[.int .i64 0, .int .i64 0, .int .i64 0, .int .i64 0] 26)) = w0 at *
  refine (Cut_any s inT _ hs (hm.below HB)).mono ?_
  rintro e w1 ⟨⟨b, rfl⟩, b1⟩
  have hR := Own.below hR b1; have HB := below_step HB b1 (by omega); clear b1
  rw [HA1.out, HR1.out]
  go_wp2_with fail
  refine (Cut_any R1 withT _ hs2 (hm.below HB)).mono ?_
  rintro e w1 ⟨⟨b2, rfl⟩, b1⟩
  have hR := Own.below hR b1; have HB := below_step HB b1 (Nat.le_refl _); clear b1
  rw [HZ1.out, HF1.out]
  go_upto_region 3 with fail
  have hle1 := HB.size
  go_cut [10] (fun v wx => ∃ px : Nat, v = .pointer (some ⟨px, 0, none⟩) ∧ px ≠ w.heap.size ∧ Own GripState.enc 4 26 w.heap.size wx (.slice (some ⟨px, 0, none⟩) 1 1) [(⟨Lib.idxOfS stNs A1, Lib.idxOfS znNs Z1, 0, 0⟩ : GripState)] ∧ Below w1.heap.size w1 wx)
  case first =>
    go_region_held3 (fun _ => True) (trivial) (first | (go_at_call 18; with_reducible refine (IdxSt_any _ _ (hn.below (by repeat (first | assumption | exact Below.refl _ _ | refine Below.drew ?_ | refine Below.alloc ?_ (by first | omega | (simp; done) | (simp; omega)) _)))).mono ?_; rintro e wq ⟨rfl, rfl⟩) | (go_at_call 18; with_reducible refine (IdxZn_any _ _ (hn.below (by repeat (first | assumption | exact Below.refl _ _ | refine Below.drew ?_ | refine Below.alloc ?_ (by first | omega | (simp; done) | (simp; omega)) _)))).mono ?_; rintro e wq ⟨rfl, rfl⟩))
    all_goals
      (try simp only [Exit.then])
      go_wp2_with fail
      go_meet
      have hlt : w.heap.size < w1.heap.size := (hR.lt _ rfl).2
      have hX : Own GripState.enc 4 26 w.heap.size (w1.alloc (.cells #[.int .i64 (Lib.idxOfS stNs A1), .int .i64 (Lib.idxOfS znNs Z1), .int .i64 0, .int .i64 0] 26)) (.slice (some ⟨w1.heap.size, 0, none⟩) 1 1) [(⟨Lib.idxOfS stNs A1, Lib.idxOfS znNs Z1, 0, 0⟩ : GripState)] := World.ownsRow_lit (e := 26) (size := 4) w1 #[.int .i64 (Lib.idxOfS stNs A1), .int .i64 (Lib.idxOfS znNs Z1), .int .i64 0, .int .i64 0] 1 hle1 (by decide) rfl
      exact ⟨w1.heap.size, rfl, by omega, Own.below hX (Below.refl _ _).drew, ((Below.refl _ _).alloc (Nat.le_refl _) _).drew⟩
  obtain ⟨px, rfl, hpx, hX, b1⟩ := hcut
  have hR := Own.below hR b1; have HB := below_step HB b1 (Nat.le_refl _); clear b1
  go_wp2_with fail
  refine (ParseInt_any F1 _ (ht.below HB) (he.below HB)).mono ?_
  rintro e w1 ⟨⟨b3, rfl⟩, b1⟩
  have hR := Own.below hR b1; have hX := Own.below hX b1; have HB := below_step HB b1 (Nat.le_refl _); clear b1
  generalize Lib.idxOfS stNs A1 = st at *; generalize Lib.idxOfS znNs Z1 = zn at *; generalize piV F1 = fo at *
  obtain ⟨u0, u1, u2, u3⟩ := GripState.one_cells hX
  have hfz := Own.frozen_ hX rfl 2
  have hXS : Own GripState.enc 4 26 w.heap.size (w1.setCell ⟨px, 2, none⟩ (.int .i64 fo)) (.slice (some ⟨px, 0, none⟩) 1 1) [⟨st, zn, fo, 0⟩] := Own.set_cell GripState.enc_len hX rfl (k := 0) (j := 2) (c := ⟨st, zn, 0, 0⟩) (c' := ⟨st, zn, fo, 0⟩) rfl (by omega) (u := .int .i64 fo) rfl
  have hR := set_keepG (k := 2) (u := .int .i64 fo) hR (Ne.symm hpx)
  have hgx := own_ge hX
  have HB := HB.trans ((Below.refl w.heap.size w1).setCell (p := ⟨px, 2, none⟩) hgx (.int .i64 fo))
  go_upto_region 5 with fail
  generalize (w1.setCell ⟨px, 2, none⟩ (.int .i64 fo)) = wS at *
  clear u0 u1 u2 u3 hfz hX
  have hX := hXS; clear hXS
  obtain ⟨u0, u1, u2, u3⟩ := GripState.one_cells hX
  obtain ⟨g, hg⟩ : ∃ g : GripState, g = ⟨st, zn, fo, 0⟩ := ⟨_, rfl⟩
  have HGG := hide (HG.out.trans hg.symm); clear HG
  cases hgb : gripB g
  · have HGB := hide hgb; clear hgb
    have HPB := hide (show pgB s = false by rw [pgB, HGG.out, HGB.out]; rfl)
    have HPV := hide (pgV_no HPB.out)
    have HG1 := hide hg; clear hg
    go_wp2_with (first | (go_at_call 13; refine (isg_is HG1.out HGB.out _).mono ?_; rintro e w2 ⟨rfl, b1⟩; have hR := Own.below hR b1; have hX := Own.below hX b1; have HB := below_step HB b1 (Nat.le_refl _); obtain ⟨u0, u1, u2, u3⟩ := GripState.one_cells hX; clear b1) | (with_reducible show wpList _ _ _ (⟨none, _, _, _, _, _⟩ :: _) _ _; refine wpList_store_mid rfl 26 (.tmp 2) (.tmp 45) rfl w.heap.size 0 _ rfl rfl (Own.there_ hR rfl (by simp)) (by kernel_rfl) (by simp [Value.oneCell']) ?_))
    have hRf := Own.set_ GripState.enc_len hR rfl (k := 0) (by simp) (⟨0, 0, 0, 0⟩ : GripState)
    have hh := GripState.one_heap hRf
    refine bodyPost_ret (results_rt rfl _ _ w.heap.size 26 _ (0, 0) _ rfl hh Tryd.underlying26 rfl (by kernel_rfl)) rfl ?_
    exact ⟨by rw [HPV.out, HPB.out] <;> rfl, below_setCells w.heap.size (Nat.le_refl _) (GripState.enc ⟨0, 0, 0, 0⟩) (0 * 4) _ HB⟩
  obtain ⟨g1, g2, g3⟩ := gripB_nums hgb
  rw [hg] at g1 g2 g3
  simp only at g1 g2 g3
  have HGB := hide hgb; clear hgb
  have HG1 := hide hg; clear hg
  obtain ⟨X, hX0⟩ : ∃ x, gtxF g = x := ⟨_, rfl⟩
  have HGX := hide hX0
  by_cases hq : X = s
  · have hqb : (X.toList == s.toList) = true := by rw [hq]; simp
    have HPB := hide (show pgB s = true by rw [pgB, HGG.out, HGB.out, hX0, hq]; simp)
    have HPV := hide (show pgV s = g by rw [pgV, HPB.out, HGG.out]; rfl)
    clear hq hX0
    go_wp2_with (first | (go_at_call 13; refine (isg_is HG1.out HGB.out _).mono ?_; rintro e w2 ⟨rfl, b1⟩; have hR := Own.below hR b1; have hX := Own.below hX b1; have HB := below_step HB b1 (Nat.le_refl _); obtain ⟨u0, u1, u2, u3⟩ := GripState.one_cells hX; clear b1) | (go_at_call 14; refine (gtx_is HG1.out HGX.out _ g1 g2 g3 (ht.below HB) (hn.below HB)).mono ?_; rintro e w2 ⟨rfl, b1⟩; have hR := Own.below hR b1; have hX := Own.below hX b1; have HB := below_step HB b1 (Nat.le_refl _); obtain ⟨u0, u1, u2, u3⟩ := GripState.one_cells hX; clear b1) | (with_reducible show wpList _ _ _ (⟨none, _, _, _, _, _⟩ :: _) _ _; refine wpList_store_mid rfl 26 (.tmp 2) (.tmp 46) rfl w.heap.size 0 _ rfl rfl (Own.there_ hR rfl (by simp)) (by kernel_rfl) (by simp [Value.oneCell']) ?_))
    have hRf := Own.set_ GripState.enc_len hR rfl (k := 0) (by simp) (⟨st, zn, fo, 0⟩ : GripState)
    have hh := GripState.one_heap hRf
    refine bodyPost_ret (results_rt rfl _ _ w.heap.size 26 _ (0, 0) _ rfl hh Tryd.underlying26 rfl (by kernel_rfl)) rfl ?_
    exact ⟨by rw [HPV.out, HPB.out, HG1.out] <;> rfl, below_setCells w.heap.size (Nat.le_refl _) (GripState.enc ⟨st, zn, fo, 0⟩) (0 * 4) _ HB⟩
  · have hqb : (X.toList == s.toList) = false := ba_ne hq
    have HPB := hide (show pgB s = false by rw [pgB, HGG.out, hX0, decide_eq_false hq]; simp)
    have HPV := hide (pgV_no HPB.out)
    clear hq hX0
    go_wp2_with (first | (go_at_call 13; refine (isg_is HG1.out HGB.out _).mono ?_; rintro e w2 ⟨rfl, b1⟩; have hR := Own.below hR b1; have hX := Own.below hX b1; have HB := below_step HB b1 (Nat.le_refl _); obtain ⟨u0, u1, u2, u3⟩ := GripState.one_cells hX; clear b1) | (go_at_call 14; refine (gtx_is HG1.out HGX.out _ g1 g2 g3 (ht.below HB) (hn.below HB)).mono ?_; rintro e w2 ⟨rfl, b1⟩; have hR := Own.below hR b1; have hX := Own.below hX b1; have HB := below_step HB b1 (Nat.le_refl _); obtain ⟨u0, u1, u2, u3⟩ := GripState.one_cells hX; clear b1) | (with_reducible show wpList _ _ _ (⟨none, _, _, _, _, _⟩ :: _) _ _; refine wpList_store_mid rfl 26 (.tmp 2) (.tmp 45) rfl w.heap.size 0 _ rfl rfl (Own.there_ hR rfl (by simp)) (by kernel_rfl) (by simp [Value.oneCell']) ?_))
    have hRf := Own.set_ GripState.enc_len hR rfl (k := 0) (by simp) (⟨0, 0, 0, 0⟩ : GripState)
    have hh := GripState.one_heap hRf
    refine bodyPost_ret (results_rt rfl _ _ w.heap.size 26 _ (0, 0) _ rfl hh Tryd.underlying26 rfl (by kernel_rfl)) rfl ?_
    exact ⟨by rw [HPV.out, HPB.out] <;> rfl, below_setCells w.heap.size (Nat.le_refl _) (GripState.enc ⟨0, 0, 0, 0⟩) (0 * 4) _ HB⟩
theorem l21g_is {g : GripState} {st zn fo : Int} {r : Bool} (hg : g = ⟨st, zn, fo, 0⟩) (hr : gripB g = r) (w : World) : Calls Tryd.prog 11 #[.agg #[.int .i64 st, .int .i64 zn, .int .i64 fo, .int .i64 0]] w fun e w' => e = .returned (.bool r) ∧ Below w.heap.size w w' := by
  subst hg; subst hr; exact l21Good_any ⟨st, zn, fo, 0⟩ w
theorem l21t_is {g : GripState} {st zn fo : Int} {x : ByteArray} (hg : g = ⟨st, zn, fo, 0⟩) (hx : gtxF g = x) (w : World) (h1 : 0 ≤ st ∧ st ≤ 4) (h2 : 0 ≤ zn ∧ zn ≤ 3) (h3 : 0 ≤ fo ∧ fo ≤ 2000) : Calls Tryd.prog 12 #[.agg #[.int .i64 st, .int .i64 zn, .int .i64 fo, .int .i64 0]] w fun e w' => e = .returned (.string x) ∧ Below w.heap.size w w' := by
  subst hg; subst hx; exact l21Text_any ⟨st, zn, fo, 0⟩ w ⟨h1, h2, h3.1, by show fo ≤ 999999; omega⟩
theorem spF_size (b : UInt8) : ∀ (l : List UInt8) (out : List ByteArray) (cur : List UInt8) (y : ByteArray), y ∈ spF b out cur l → y ∈ out ∨ y.size ≤ cur.length + l.length
  | [], out, cur, y, h => by
    simp only [spF, List.mem_append, List.mem_singleton] at h
    rcases h with h | h
    · exact .inl h
    · right; subst h; simp [ByteArray.size]
  | c :: t, out, cur, y, h => by
    rw [spF] at h
    split at h
    · rcases spF_size b t _ _ y h with h1 | h1
      · rcases List.mem_append.1 h1 with h2 | h2
        · exact .inl h2
        · right; rw [List.mem_singleton] at h2; subst h2; simp [ByteArray.size] <;> omega
      · right; simp at h1 ⊢; omega
    · rcases spF_size b t _ _ y h with h1 | h1
      · exact .inl h1
      · right; simp at h1 ⊢; omega
theorem spF_length (b : UInt8) : ∀ (l : List UInt8) (out : List ByteArray) (cur : List UInt8), (spF b out cur l).length ≤ out.length + l.length + 1
  | [], out, cur => by simp [spF]
  | c :: t, out, cur => by
    rw [spF]
    split
    · have := spF_length b t (out ++ [⟨cur.toArray⟩]) []
      simp at this ⊢; omega
    · have := spF_length b t out (cur ++ [c])
      simp at this ⊢; omega
theorem words_length (s : ByteArray) : (splL s).length ≤ s.size + 1 := by
  have := spF_length 32 s.data.toList [] []
  unfold splL
  simpa using this
theorem word_size {s x : ByteArray} (h : x ∈ splL s) : x.size ≤ s.size := by
  rcases spF_size 32 _ _ _ x h with h1 | h1
  · cases h1
  · simpa using h1
def mtUp (s : ByteArray) (n : Int) (k : Nat) : Prop := ∀ st z : Nat, st < k → z < 4 → mtB s n st z = false
def mtIn (s : ByteArray) (n : Int) (k j : Nat) : Prop := ∀ z : Nat, z < j → mtB s n k z = false
theorem mtIn_step {s : ByteArray} {n : Int} {k j : Nat} (h : mtIn s n k j) (hb : mtB s n k j = false) : mtIn s n k (j + 1) := fun z hz => by
  rcases Nat.lt_or_eq_of_le (Nat.lt_succ_iff.1 hz) with h1 | h1
  · exact h z h1
  · subst h1; exact hb
theorem mtUp_step {s : ByteArray} {n : Int} {k : Nat} (h : mtUp s n k) (hb : mtIn s n k 4) : mtUp s n (k + 1) := fun st z hs hz => by
  rcases Nat.lt_or_eq_of_le (Nat.lt_succ_iff.1 hs) with h1 | h1
  · exact h st z h1 hz
  · subst h1; exact hb z hz
set_option maxRecDepth 100000 in
set_option maxHeartbeats 2000000 in
theorem ParseGrip_spec (s : ByteArray) (w : World) (hs : s.size ≤ 1048576) :
    Calls Tryd.prog 8 #[.string s] w fun e w' => e = .returned (.tuple #[.agg #[.int .i64 (pgV s).state, .int .i64 (pgV s).zone, .int .i64 (pgV s).force, .int .i64 (pgV s).fails], .bool (pgB s)]) ∧ Below w.heap.size w w' := by
  have hR : Own GripState.enc 4 26 w.heap.size (w.alloc (.cells #[.int .i64 0, .int .i64 0, .int .i64 0, .int .i64 0] 26)) (.slice (some ⟨w.heap.size, 0, none⟩) 1 1) [(⟨0, 0, 0, 0⟩ : GripState)] := World.ownsRow_lit (e := 26) (size := 4) w #[.int .i64 0, .int .i64 0, .int .i64 0, .int .i64 0] 1 (Nat.le_refl _) (by decide) rfl
  have HB : Below w.heap.size w (w.alloc (.cells #[.int .i64 0, .int .i64 0, .int .i64 0, .int .i64 0] 26)) := (Below.refl _ _).alloc (Nat.le_refl _) _
  have hsz : (w.alloc (.cells #[.int .i64 0, .int .i64 0, .int .i64 0, .int .i64 0] 26)).heap.size = w.heap.size + 1 := by simp
  go_enter Tryd.func8, Tryd.ntmps8
  go_wp2_with fail
  generalize (w.alloc (.cells #[.int .i64 0, .int .i64 0, .int .i64 0, .int .i64 0] 26)) = w0 at *
  refine (l1Split_any s _ hs).mono ?_
  rintro e w1 ⟨A, cap, rfl, ho, b1⟩
  have hR := Own.below hR b1; have HB := below_step HB b1 (by omega); clear b1
  have RW := Own.rd_of encS_len ho; clear ho
  have hsm := fun (h : pgB s = true) => pg_small h
  have hwl := words_length s
  obtain ⟨W, hW⟩ : ∃ W, splL s = W := ⟨_, rfl⟩
  rw [hW] at RW hsm hwl ⊢
  have HW := hide hW; have HSM := hide hsm; clear hW hsm
  by_cases h40 : (40 : Int) < (s.size : Int)
  · have HPB := hide (show pgB s = false by
      cases h : pgB s
      · rfl
      · have := (HSM.out h).1; omega)
    have HPV := hide (pgV_no HPB.out)
    go_wp2_with (first | (with_reducible show wpList _ _ _ (⟨none, _, _, _, _, _⟩ :: _) _ _; refine wpList_store_mid rfl 26 (.tmp 2) (.tmp 20) rfl w.heap.size 0 _ rfl rfl (Own.there_ hR rfl (by simp)) (by kernel_rfl) (by simp [Value.oneCell']) ?_))
    have hRf := Own.set_ GripState.enc_len hR rfl (k := 0) (by simp) (⟨0, 0, 0, 0⟩ : GripState)
    have hh := GripState.one_heap hRf
    refine bodyPost_ret (results_rt rfl _ _ w.heap.size 26 _ (0, 0) _ rfl hh Tryd.underlying26 rfl (by kernel_rfl)) rfl ?_
    exact ⟨by rw [HPV.out, HPB.out] <;> rfl, below_setCells w.heap.size (Nat.le_refl _) (GripState.enc ⟨0, 0, 0, 0⟩) (0 * 4) _ HB⟩
  by_cases h3 : (W.length : Int) < 3
  · have HPB := hide (show pgB s = false by
      cases h : pgB s
      · rfl
      · have := (HSM.out h).2; omega)
    have HPV := hide (pgV_no HPB.out)
    go_wp2_with (first | (with_reducible show wpList _ _ _ (⟨none, _, _, _, _, _⟩ :: _) _ _; refine wpList_store_mid rfl 26 (.tmp 2) (.tmp 20) rfl w.heap.size 0 _ rfl rfl (Own.there_ hR rfl (by simp)) (by kernel_rfl) (by simp [Value.oneCell']) ?_))
    have hRf := Own.set_ GripState.enc_len hR rfl (k := 0) (by simp) (⟨0, 0, 0, 0⟩ : GripState)
    have hh := GripState.one_heap hRf
    refine bodyPost_ret (results_rt rfl _ _ w.heap.size 26 _ (0, 0) _ rfl hh Tryd.underlying26 rfl (by kernel_rfl)) rfl ?_
    exact ⟨by rw [HPV.out, HPB.out] <;> rfl, below_setCells w.heap.size (Nat.le_refl _) (GripState.enc ⟨0, 0, 0, 0⟩) (0 * 4) _ HB⟩
  clear HSM
  obtain ⟨bw, ow, rfl, _, hcw⟩ := rd_str RW (by intro h; rw [h] at h3; simp at h3)
  obtain ⟨x, hx⟩ : ∃ x, W[W.length - 1]? = some x := ⟨_, List.getElem?_eq_getElem (by omega)⟩
  have y0 := hcw _ _ hx
  have HXS := hide (word_size (show x ∈ splL s by rw [HW.out]; exact List.mem_of_getElem? hx))
  have HX := hide hx; clear hx hcw RW
  obtain ⟨q, hq⟩ : ∃ q, W.length = q + 1 := ⟨W.length - 1, by omega⟩
  have HQ := hide hq
  rw [show W.length - 1 = q by omega] at y0
  have hwq : IntKind.i64.wrap ((W.length : Int) - 1) = (q : Int) := by rw [IntKind.wrap_i64]; omega
  have hq2 : (q : Int) < (W.length : Int) := by omega
  clear hq
  go_wp2_with fail
  refine (l1Read_any x _ (by have h := HXS.out; omega)).mono ?_
  rintro e w1 ⟨n, b, rfl, hn, b1⟩
  have hR := Own.below hR b1; have HB := below_step HB b1 (Nat.le_refl _); clear b1
  have HN := hide (show ∀ m : Int, 0 ≤ m → m ≤ 999999 → (splL s)[(splL s).length - 1]? = some (numB m) → n = m from fun m m0 m1 e => hn m m0 m1 (by rw [HW.out, HX.out] at e; injection e))
  clear hn HX HW y0
  go_wp2_with fail
  go_loopw [7] (fun i wr => ∃ k : Nat, k ≤ 5 ∧ i = .int .i64 k ∧ Hid (mtUp s n k) ∧ Own GripState.enc 4 26 w.heap.size wr (.slice (some ⟨w.heap.size, 0, none⟩) 1 1) [(⟨0, 0, 0, 0⟩ : GripState)] ∧ Below w.heap.size w wr) (fun i _ => 5 - (intOf i).toNat)
  case atStart => exact ⟨0, by omega, rfl, hide (fun st z h => absurd h (Nat.not_lt_zero _)), hR, HB⟩
  case round =>
    clear hR HB
    obtain ⟨k, hk, rfl, HU, hR, HB⟩ := hrel
    by_cases hk5 : k < 5
    · have hki : (k : Int) ≤ 4 := by omega
      obtain ⟨wo, hwo⟩ : ∃ wo : World, wo = wr := ⟨_, rfl⟩
      subst hwo
      go_wp2_with fail
      go_loopw [8] (fun i wr => ∃ j : Nat, j ≤ 4 ∧ i = .int .i64 j ∧ Hid (mtIn s n k j) ∧ Own GripState.enc 4 26 w.heap.size wr (.slice (some ⟨w.heap.size, 0, none⟩) 1 1) [(⟨0, 0, 0, 0⟩ : GripState)] ∧ Below w.heap.size w wr) (fun i _ => 4 - (intOf i).toNat)
      case atStart => exact ⟨0, by omega, rfl, hide (fun z h => absurd h (Nat.not_lt_zero _)), hR, HB⟩
      case round =>
        clear hR HB
        obtain ⟨j, hj, rfl, HI, hR, HB⟩ := hrel
        by_cases hj4 : j < 4
        · have hji : (j : Int) ≤ 3 := by omega
          have hle := HB.size
          have hlt : w.heap.size < wr.heap.size := (hR.lt _ rfl).2
          have hX : Own GripState.enc 4 26 w.heap.size (wr.alloc (.cells #[.int .i64 (k : Int), .int .i64 (j : Int), .int .i64 0, .int .i64 0] 26)) (.slice (some ⟨wr.heap.size, 0, none⟩) 1 1) [(⟨(k : Int), (j : Int), 0, 0⟩ : GripState)] := World.ownsRow_lit (e := 26) (size := 4) wr #[.int .i64 (k : Int), .int .i64 (j : Int), .int .i64 0, .int .i64 0] 1 hle (by decide) rfl
          have hbx : Below wr.heap.size wr (wr.alloc (.cells #[.int .i64 (k : Int), .int .i64 (j : Int), .int .i64 0, .int .i64 0] 26)) := (Below.refl _ _).alloc (Nat.le_refl _) _
          have hR := Own.below hR hbx; have HB := below_step HB hbx (Nat.le_refl _); clear hbx
          go_upto_region 12 with fail
          generalize (wr.alloc (.cells #[.int .i64 (k : Int), .int .i64 (j : Int), .int .i64 0, .int .i64 0] 26)) = wx at *
          obtain ⟨px, hpx⟩ : ∃ px, wr.heap.size = px := ⟨_, rfl⟩
          rw [hpx] at hX hlt ⊢; clear hpx
          obtain ⟨u0, u1, u2, u3⟩ := GripState.one_cells hX
          by_cases h2 : (k : Int) = 2
          · have h2b : ((k : Int) == 2) = true := by simpa using h2
            have HF := hide (show gS n k j = ⟨(k : Int), (j : Int), n, 0⟩ by simp [gS, h2])
            clear h2
            have hfz := Own.frozen_ hX rfl 2
            have hXS : Own GripState.enc 4 26 w.heap.size (wx.setCell ⟨px, 2, none⟩ (.int .i64 n)) (.slice (some ⟨px, 0, none⟩) 1 1) [⟨(k : Int), (j : Int), n, 0⟩] := Own.set_cell GripState.enc_len hX rfl (k := 0) (j := 2) (c := ⟨(k : Int), (j : Int), 0, 0⟩) (c' := ⟨(k : Int), (j : Int), n, 0⟩) rfl (by omega) (u := .int .i64 n) rfl
            have hR := set_keepG (k := 2) (u := .int .i64 n) hR (show w.heap.size ≠ px by omega)
            have HB := HB.trans ((Below.refl w.heap.size wx).setCell (p := ⟨px, 2, none⟩) (by show w.heap.size ≤ px; omega) (.int .i64 n))
            go_upto_region 14 with fail
            generalize (wx.setCell ⟨px, 2, none⟩ (.int .i64 n)) = wS at *
            clear u0 u1 u2 u3 hfz hX
            have hX := hXS; clear hXS
            obtain ⟨u0, u1, u2, u3⟩ := GripState.one_cells hX
            cases hgb : gripB (gS n k j)
            · have HGB := hide hgb; have HM := hide (show mtB s n k j = false by simp [mtB, hgb]); clear hgb
              go_wp2_with (first | (go_at_call 11; refine (l21g_is HF.out HGB.out _).mono ?_; rintro e w2 ⟨rfl, b1⟩; have hR := Own.below hR b1; have hX := Own.below hX b1; have HB := below_step HB b1 (Nat.le_refl _); obtain ⟨u0, u1, u2, u3⟩ := GripState.one_cells hX; clear b1))
              go_roundw
              case rel => exact ⟨j + 1, by omega, by go_num, hide (mtIn_step HI.out HM.out), hR, HB⟩
              case measure => simp [intOf] <;> omega
            have HGB := hide hgb
            obtain ⟨g1, g2, g3⟩ := gripB_nums hgb
            rw [HF.out] at g1 g2 g3
            simp only at g1 g2 g3
            obtain ⟨X, hX0⟩ : ∃ x, gtxF (gS n k j) = x := ⟨_, rfl⟩
            have HGX := hide hX0
            by_cases hq : X = s
            · have hqb : (X.toList == s.toList) = true := by rw [hq]; simp
              have HPB := hide (mt_yes (show mtB s n k j = true by simp [mtB, hgb, hX0, hq]))
              clear hq hX0 hgb
              go_wp2_with (first | (go_at_call 11; refine (l21g_is HF.out HGB.out _).mono ?_; rintro e w2 ⟨rfl, b1⟩; have hR := Own.below hR b1; have hX := Own.below hX b1; have HB := below_step HB b1 (Nat.le_refl _); obtain ⟨u0, u1, u2, u3⟩ := GripState.one_cells hX; clear b1) | (go_at_call 12; refine (l21t_is HF.out HGX.out _ g1 g2 g3).mono ?_; rintro e w2 ⟨rfl, b1⟩; have hR := Own.below hR b1; have hX := Own.below hX b1; have HB := below_step HB b1 (Nat.le_refl _); obtain ⟨u0, u1, u2, u3⟩ := GripState.one_cells hX; clear b1) | (with_reducible show wpList _ _ _ (⟨none, _, _, _, _, _⟩ :: _) _ _; refine wpList_store_mid rfl 26 (.tmp 2) (.tmp 54) rfl w.heap.size 0 _ rfl rfl (Own.there_ hR rfl (by simp)) (by kernel_rfl) (by simp [Value.oneCell']) ?_))
              have hRf := Own.set_ GripState.enc_len hR rfl (k := 0) (by simp) (⟨(k : Int), (j : Int), n, 0⟩ : GripState)
              have hh := GripState.one_heap hRf
              refine bodyPost_ret (results_rt rfl _ _ w.heap.size 26 _ (0, 0) _ rfl hh Tryd.underlying26 rfl (by kernel_rfl)) rfl ?_
              exact ⟨by rw [HPB.out.2, HPB.out.1, HF.out] <;> rfl, below_setCells w.heap.size (Nat.le_refl _) (GripState.enc ⟨(k : Int), (j : Int), n, 0⟩) (0 * 4) _ HB⟩
            · have hqb : (X.toList == s.toList) = false := ba_ne hq
              have HM := hide (show mtB s n k j = false by simp [mtB, hX0, hq])
              clear hq hX0 hgb
              go_wp2_with (first | (go_at_call 11; refine (l21g_is HF.out HGB.out _).mono ?_; rintro e w2 ⟨rfl, b1⟩; have hR := Own.below hR b1; have hX := Own.below hX b1; have HB := below_step HB b1 (Nat.le_refl _); obtain ⟨u0, u1, u2, u3⟩ := GripState.one_cells hX; clear b1) | (go_at_call 12; refine (l21t_is HF.out HGX.out _ g1 g2 g3).mono ?_; rintro e w2 ⟨rfl, b1⟩; have hR := Own.below hR b1; have hX := Own.below hX b1; have HB := below_step HB b1 (Nat.le_refl _); obtain ⟨u0, u1, u2, u3⟩ := GripState.one_cells hX; clear b1))
              go_roundw
              case rel => exact ⟨j + 1, by omega, by go_num, hide (mtIn_step HI.out HM.out), hR, HB⟩
              case measure => simp [intOf] <;> omega
          · have h2b : ((k : Int) == 2) = false := by simpa using h2
            have HF := hide (show gS n k j = ⟨(k : Int), (j : Int), 0, 0⟩ by simp [gS, h2])
            clear h2
            go_upto_region 14 with fail
            cases hgb : gripB (gS n k j)
            · have HGB := hide hgb; have HM := hide (show mtB s n k j = false by simp [mtB, hgb]); clear hgb
              go_wp2_with (first | (go_at_call 11; refine (l21g_is HF.out HGB.out _).mono ?_; rintro e w2 ⟨rfl, b1⟩; have hR := Own.below hR b1; have hX := Own.below hX b1; have HB := below_step HB b1 (Nat.le_refl _); obtain ⟨u0, u1, u2, u3⟩ := GripState.one_cells hX; clear b1))
              go_roundw
              case rel => exact ⟨j + 1, by omega, by go_num, hide (mtIn_step HI.out HM.out), hR, HB⟩
              case measure => simp [intOf] <;> omega
            have HGB := hide hgb
            obtain ⟨g1, g2, g3⟩ := gripB_nums hgb
            rw [HF.out] at g1 g2 g3
            simp only at g1 g2 g3
            obtain ⟨X, hX0⟩ : ∃ x, gtxF (gS n k j) = x := ⟨_, rfl⟩
            have HGX := hide hX0
            by_cases hq : X = s
            · have hqb : (X.toList == s.toList) = true := by rw [hq]; simp
              have HPB := hide (mt_yes (show mtB s n k j = true by simp [mtB, hgb, hX0, hq]))
              clear hq hX0 hgb
              go_wp2_with (first | (go_at_call 11; refine (l21g_is HF.out HGB.out _).mono ?_; rintro e w2 ⟨rfl, b1⟩; have hR := Own.below hR b1; have hX := Own.below hX b1; have HB := below_step HB b1 (Nat.le_refl _); obtain ⟨u0, u1, u2, u3⟩ := GripState.one_cells hX; clear b1) | (go_at_call 12; refine (l21t_is HF.out HGX.out _ g1 g2 g3).mono ?_; rintro e w2 ⟨rfl, b1⟩; have hR := Own.below hR b1; have hX := Own.below hX b1; have HB := below_step HB b1 (Nat.le_refl _); obtain ⟨u0, u1, u2, u3⟩ := GripState.one_cells hX; clear b1) | (with_reducible show wpList _ _ _ (⟨none, _, _, _, _, _⟩ :: _) _ _; refine wpList_store_mid rfl 26 (.tmp 2) (.tmp 54) rfl w.heap.size 0 _ rfl rfl (Own.there_ hR rfl (by simp)) (by kernel_rfl) (by simp [Value.oneCell']) ?_))
              have hRf := Own.set_ GripState.enc_len hR rfl (k := 0) (by simp) (⟨(k : Int), (j : Int), 0, 0⟩ : GripState)
              have hh := GripState.one_heap hRf
              refine bodyPost_ret (results_rt rfl _ _ w.heap.size 26 _ (0, 0) _ rfl hh Tryd.underlying26 rfl (by kernel_rfl)) rfl ?_
              exact ⟨by rw [HPB.out.2, HPB.out.1, HF.out] <;> rfl, below_setCells w.heap.size (Nat.le_refl _) (GripState.enc ⟨(k : Int), (j : Int), 0, 0⟩) (0 * 4) _ HB⟩
            · have hqb : (X.toList == s.toList) = false := ba_ne hq
              have HM := hide (show mtB s n k j = false by simp [mtB, hX0, hq])
              clear hq hX0 hgb
              go_wp2_with (first | (go_at_call 11; refine (l21g_is HF.out HGB.out _).mono ?_; rintro e w2 ⟨rfl, b1⟩; have hR := Own.below hR b1; have hX := Own.below hX b1; have HB := below_step HB b1 (Nat.le_refl _); obtain ⟨u0, u1, u2, u3⟩ := GripState.one_cells hX; clear b1) | (go_at_call 12; refine (l21t_is HF.out HGX.out _ g1 g2 g3).mono ?_; rintro e w2 ⟨rfl, b1⟩; have hR := Own.below hR b1; have hX := Own.below hX b1; have HB := below_step HB b1 (Nat.le_refl _); obtain ⟨u0, u1, u2, u3⟩ := GripState.one_cells hX; clear b1))
              go_roundw
              case rel => exact ⟨j + 1, by omega, by go_num, hide (mtIn_step HI.out HM.out), hR, HB⟩
              case measure => simp [intOf] <;> omega
        · obtain rfl : j = 4 := by omega
          have hjn : ¬ ((4 : Nat) : Int) ≤ 3 := by omega
          go_wp2_with fail
          go_roundw
          case rel => exact ⟨k + 1, by omega, by go_num, hide (mtUp_step HU.out HI.out), hR, HB⟩
          case measure => simp [intOf] <;> omega
    · obtain rfl : k = 5 := by omega
      have HPB := hide (show pgB s = false from mt_no HN.out HU.out)
      have HPV := hide (pgV_no HPB.out)
      go_wp2_with (first | (with_reducible show wpList _ _ _ (⟨none, _, _, _, _, _⟩ :: _) _ _; refine wpList_store_mid rfl 26 (.tmp 2) (.tmp 55) rfl w.heap.size 0 _ rfl rfl (Own.there_ hR rfl (by simp)) (by kernel_rfl) (by simp [Value.oneCell']) ?_))
      have hRf := Own.set_ GripState.enc_len hR rfl (k := 0) (by simp) (⟨0, 0, 0, 0⟩ : GripState)
      have hh := GripState.one_heap hRf
      refine bodyPost_ret (results_rt rfl _ _ w.heap.size 26 _ (0, 0) _ rfl hh Tryd.underlying26 rfl (by kernel_rfl)) rfl ?_
      exact ⟨by rw [HPV.out, HPB.out] <;> rfl, below_setCells w.heap.size (Nat.le_refl _) (GripState.enc ⟨0, 0, 0, 0⟩) (0 * 4) _ HB⟩
end Go.Proofs.YtkdnkhbcbcffeaaDoor
