/- GripText: both packages. The tables (powers of ten, names of states and zones) are as the row's list says. -/
import Derived.Test.YtkdnkhbcbcffeaaDoorGrip
import Derived.Test.YtkdnkhbcbcffeaaDoorNum
import Derived.Deep.RegionHeldLaw
import Derived.Deep.RegionWith
import Derived.Deep.DeepCutAuto
import Derived.Deep.CutBlock
namespace Go.Proofs.YtkdnkhbcbcffeaaDoor
open Go Go.RowKit
set_option linter.unusedVariables false
set_option linter.unusedSimpArgs false
def stNs : List ByteArray := [⟨#[111, 112, 101, 110]⟩, ⟨#[99, 108, 111, 115, 105, 110, 103]⟩, ⟨#[115, 104, 117, 116]⟩, ⟨#[111, 112, 101, 110, 105, 110, 103]⟩, ⟨#[108, 111, 99, 107, 101, 100]⟩]
def znNs : List ByteArray := [⟨#[115, 116, 97, 116, 105, 111, 110]⟩, ⟨#[101, 110, 116, 114, 121]⟩, ⟨#[114, 111, 112, 101]⟩, ⟨#[101, 120, 105, 116]⟩]
def stN (n : Int) : ByteArray := stNs.getD n.toNat ⟨#[]⟩
def znN (n : Int) : ByteArray := znNs.getD n.toNat ⟨#[]⟩
def inT : ByteArray := ⟨#[32, 105, 110, 32]⟩
def withT : ByteArray := ⟨#[32, 119, 105, 116, 104, 32]⟩
def gtxH (g : GripState) : ByteArray := stN g.state ++ inT ++ znN g.zone
def gtxF (g : GripState) : ByteArray := if g.state = 2 then gtxH g ++ (withT ++ numB g.force) else gtxH g
def gtxV (g : GripState) : ByteArray := if gripB g then gtxF g else ⟨#[]⟩
def NamesIs (w : World) : Prop := (∀ (k : Nat) (x : ByteArray), stNs[k]? = some x → w.cell? ⟨0, k, none⟩ = some (.string x)) ∧ ∀ (k : Nat) (x : ByteArray), znNs[k]? = some x → w.cell? ⟨1, k, none⟩ = some (.string x)
theorem NamesIs.below {w w' : World} (h : NamesIs w) (hb : Below w.heap.size w w') : NamesIs w' := ⟨fun k x hk => below_cell hb (h.1 k x hk), fun k x hk => below_cell hb (h.2 k x hk)⟩
theorem ba_assoc (a b c : ByteArray) : a ++ b ++ c = a ++ (b ++ c) := by
  apply ByteArray.ext
  simp [ByteArray.data_append]
theorem stN_size (n : Int) : (stN n).size ≤ 7 := by
  unfold stN
  have h : ∀ x ∈ stNs, x.size ≤ 7 := by decide
  rw [List.getD_eq_getElem?_getD]
  cases hx : stNs[n.toNat]? with
  | none => exact (by decide : (0 : Nat) ≤ 7)
  | some x => exact h x (List.mem_of_getElem? hx)
theorem znN_size (n : Int) : (znN n).size ≤ 7 := by
  unfold znN
  have h : ∀ x ∈ znNs, x.size ≤ 7 := by decide
  rw [List.getD_eq_getElem?_getD]
  cases hx : znNs[n.toNat]? with
  | none => exact (by decide : (0 : Nat) ≤ 7)
  | some x => exact h x (List.mem_of_getElem? hx)
theorem st_at {s : Nat} (h : s < 5) : stNs[s]? = some (stN (s : Int)) := by
  unfold stN; rw [Int.toNat_natCast, List.getD_eq_getElem?_getD, List.getElem?_eq_getElem (show s < stNs.length from h)]; rfl
theorem zn_at {s : Nat} (h : s < 4) : znNs[s]? = some (znN (s : Int)) := by
  unfold znN; rw [Int.toNat_natCast, List.getD_eq_getElem?_getD, List.getElem?_eq_getElem (show s < znNs.length from h)]; rfl
theorem gripB_nums {g : GripState} (h : gripB g = true) : (0 ≤ g.state ∧ g.state ≤ 4) ∧ (0 ≤ g.zone ∧ g.zone ≤ 3) ∧ (0 ≤ g.force ∧ g.force ≤ 2000) := by
  simp only [gripB, Bool.and_eq_true, inB_iff] at h
  exact ⟨h.1, h.2.1, h.2.2.1⟩
theorem lit_cell (W : World) (cs : Array Value) (T : TypeId) (k : Nat) (v : Value) (h : cs[k]? = some v) : (W.alloc (.cells cs T)).cell? ⟨W.heap.size, k, none⟩ = some v := by
  rw [cell_of_row _ _ k cs T (0, 0) (heap_alloc_new W _), h]
theorem l21States_any (lo : Nat) (w : World) (hlo : lo ≤ w.heap.size) : Calls Tryd.prog 21 #[] w fun e w' => e = .returned (.slice (some ⟨w.heap.size, 0, none⟩) 5 5) ∧ Below lo w w' ∧ w.heap.size < w'.heap.size ∧ ∀ (k : Nat) v, (#[.string ⟨#[111, 112, 101, 110]⟩, .string ⟨#[99, 108, 111, 115, 105, 110, 103]⟩, .string ⟨#[115, 104, 117, 116]⟩, .string ⟨#[111, 112, 101, 110, 105, 110, 103]⟩, .string ⟨#[108, 111, 99, 107, 101, 100]⟩] : Array Value)[k]? = some v → w'.cell? ⟨w.heap.size, k, none⟩ = some v := by
  go_enter Tryd.func21, Tryd.ntmps21
  go_wp2_with fail
  go_ret
  exact ⟨rfl, (Below.refl _ _).alloc hlo _, by simp, fun k v h => lit_cell _ _ _ k v h⟩
theorem l21Zones_any (lo : Nat) (w : World) (hlo : lo ≤ w.heap.size) : Calls Tryd.prog 22 #[] w fun e w' => e = .returned (.slice (some ⟨w.heap.size, 0, none⟩) 4 4) ∧ Below lo w w' ∧ w.heap.size < w'.heap.size ∧ ∀ (k : Nat) v, (#[.string ⟨#[115, 116, 97, 116, 105, 111, 110]⟩, .string ⟨#[101, 110, 116, 114, 121]⟩, .string ⟨#[114, 111, 112, 101]⟩, .string ⟨#[101, 120, 105, 116]⟩] : Array Value)[k]? = some v → w'.cell? ⟨w.heap.size, k, none⟩ = some v := by
  go_enter Tryd.func22, Tryd.ntmps22
  go_wp2_with fail
  go_ret
  exact ⟨rfl, (Below.refl _ _).alloc hlo _, by simp, fun k v h => lit_cell _ _ _ k v h⟩
theorem states_at {s : Nat} (h : s < 5) : (#[.string ⟨#[111, 112, 101, 110]⟩, .string ⟨#[99, 108, 111, 115, 105, 110, 103]⟩, .string ⟨#[115, 104, 117, 116]⟩, .string ⟨#[111, 112, 101, 110, 105, 110, 103]⟩, .string ⟨#[108, 111, 99, 107, 101, 100]⟩] : Array Value)[s]? = some (.string (stN (s : Int))) := by
  rcases (by omega : s = 0 ∨ s = 1 ∨ s = 2 ∨ s = 3 ∨ s = 4) with rfl | rfl | rfl | rfl | rfl <;> rfl
theorem zones_at {s : Nat} (h : s < 4) : (#[.string ⟨#[115, 116, 97, 116, 105, 111, 110]⟩, .string ⟨#[101, 110, 116, 114, 121]⟩, .string ⟨#[114, 111, 112, 101]⟩, .string ⟨#[101, 120, 105, 116]⟩] : Array Value)[s]? = some (.string (znN (s : Int))) := by
  rcases (by omega : s = 0 ∨ s = 1 ∨ s = 2 ∨ s = 3) with rfl | rfl | rfl | rfl <;> rfl

set_option maxRecDepth 100000 in
set_option maxHeartbeats 4000000 in
theorem gripText_any (g : GripState) (w : World) (hg : (0 ≤ g.state ∧ g.state ≤ 4) ∧ (0 ≤ g.zone ∧ g.zone ≤ 3) ∧ (0 ≤ g.force ∧ g.force ≤ 999999)) (ht : Tab10 w) (hn : NamesIs w) :
    Calls Tryd.prog 14 #[.agg #[.int .i64 g.state, .int .i64 g.zone, .int .i64 g.force, .int .i64 g.fails]] w fun e w' => e = .returned (.string (gtxF g)) ∧ Below w.heap.size w w' := by
  obtain ⟨st, zo, fo, fa⟩ := g
  simp only at hg
  obtain ⟨⟨s0, s1⟩, ⟨z0, z1⟩, f0, f1⟩ := hg
  obtain ⟨s, rfl⟩ := Int.eq_ofNat_of_zero_le s0
  obtain ⟨z, rfl⟩ := Int.eq_ofNat_of_zero_le z0
  show Calls _ _ #[.agg #[.int .i64 (s : Int), .int .i64 (z : Int), .int .i64 fo, .int .i64 fa]] w _
  have hba : Below w.heap.size w (w.alloc (.cells #[.int .i64 (s : Int), .int .i64 (z : Int), .int .i64 fo, .int .i64 fa] 26)) := (Below.refl _ _).alloc (Nat.le_refl _) _
  have hbx := hide (fun d => GripState.box_after w ⟨(s : Int), (z : Int), fo, fa⟩ 26 d)
  have hs5 : s < 5 := by omega
  have hz4 : z < 4 := by omega
  have a0 := hn.1 s _ (st_at hs5)
  have b0 := hn.2 z _ (zn_at hz4)
  have ss := stN_size (s : Int); have zs := znN_size (z : Int); have ns := numB_size (n := fo) (by omega) (by omega)
  have HF := hide (show gtxF ⟨(s : Int), (z : Int), fo, fa⟩ = if (s : Int) = 2 then (stN (s : Int) ++ inT ++ znN (z : Int)) ++ (withT ++ numB fo) else stN (s : Int) ++ inT ++ znN (z : Int) from rfl)
  generalize stN (s : Int) = sn at *; generalize znN (z : Int) = zn at *
  obtain ⟨x0, x1, x2, _⟩ := hbx.out ⟨_, Below.refl _ _⟩
  have HT := hide (ht.below hba)
  go_enter Tryd.func14, Tryd.ntmps14
  go_wp2_with fail
  have y0 := after_cell x0; have y1 := after_cell x1; have a1 := after_cell (below_cell hba a0); have b1 := after_cell (below_cell hba b0)
  refine wp_region_after (by kernel_rfl) (by kernel_rfl) ?_
  repeat (go_big_quiet_step (fail))
  refine wpQuiet_nil ?_
  rintro _ ⟨⟨w3, hb3⟩, rfl⟩
  clear y0 y1 a1 b1
  replace x0 := below_cell hb3 x0; replace x2 := below_cell hb3 x2
  have B3 := below_step hba hb3 (Nat.le_refl _)
  by_cases hd : (s : Int) = 2
  · have hd' : ((s : Int) == 2) = true := by simpa using hd
    have HD := hide hd; clear hd
    go_wp2_with (go_at_call 25; refine (Itoa_any _ _ (by omega) (by omega) (HT.out.below hb3)).mono ?_; rintro e w4 ⟨rfl, hb4⟩)
    go_ret
    exact ⟨ret_str (by rw [HF.out, if_pos HD.out]; rfl), below_step B3 hb4 (Nat.le_refl _)⟩
  · have hd' : ((s : Int) == 2) = false := by simpa using hd
    have HD := hide hd; clear hd
    go_wp2_with fail
    go_ret
    exact ⟨ret_str (by rw [HF.out, if_neg HD.out]; rfl), B3⟩
set_option maxRecDepth 100000 in
set_option maxHeartbeats 4000000 in
theorem l21Text_any (g : GripState) (w : World) (hg : (0 ≤ g.state ∧ g.state ≤ 4) ∧ (0 ≤ g.zone ∧ g.zone ≤ 3) ∧ (0 ≤ g.force ∧ g.force ≤ 999999)) :
    Calls Tryd.prog 12 #[.agg #[.int .i64 g.state, .int .i64 g.zone, .int .i64 g.force, .int .i64 g.fails]] w fun e w' => e = .returned (.string (gtxF g)) ∧ Below w.heap.size w w' := by
  obtain ⟨st, zo, fo, fa⟩ := g
  simp only at hg
  obtain ⟨⟨s0, s1⟩, ⟨z0, z1⟩, f0, f1⟩ := hg
  obtain ⟨s, rfl⟩ := Int.eq_ofNat_of_zero_le s0
  obtain ⟨z, rfl⟩ := Int.eq_ofNat_of_zero_le z0
  show Calls _ _ #[.agg #[.int .i64 (s : Int), .int .i64 (z : Int), .int .i64 fo, .int .i64 fa]] w _
  have hba : Below w.heap.size w (w.alloc (.cells #[.int .i64 (s : Int), .int .i64 (z : Int), .int .i64 fo, .int .i64 fa] 26)) := (Below.refl _ _).alloc (Nat.le_refl _) _
  have hbx := hide (fun d => GripState.box_after w ⟨(s : Int), (z : Int), fo, fa⟩ 26 d)
  have hs5 : s < 5 := by omega
  have hz4 : z < 4 := by omega
  have qs := states_at hs5; have qz := zones_at hz4
  have ss := stN_size (s : Int); have zs := znN_size (z : Int); have ns := numB_size (n := fo) (by omega) (by omega)
  have HF := hide (show gtxF ⟨(s : Int), (z : Int), fo, fa⟩ = if (s : Int) = 2 then (stN (s : Int) ++ inT ++ znN (z : Int)) ++ (withT ++ numB fo) else stN (s : Int) ++ inT ++ znN (z : Int) from rfl)
  generalize stN (s : Int) = sn at *; generalize znN (z : Int) = zn at *
  obtain ⟨x0, x1, x2, _⟩ := hbx.out ⟨_, Below.refl _ _⟩
  simp only at x0 x1 x2
  go_enter Tryd.func12, Tryd.ntmps12
  go_wp2_with fail
  generalize hw1 : (w.alloc (.cells #[.int .i64 (s : Int), .int .i64 (z : Int), .int .i64 fo, .int .i64 fa] 26)) = w1 at *
  have hS : w.heap.size < w1.heap.size := World.block_lt_of_cell? _ _ x0
  clear hw1 hbx
  have HX := hide (fun (X : World) (hX : Below w1.heap.size w1 X) => show X.cell? ⟨w.heap.size, 0, none⟩ = some (.int .i64 (s : Int)) ∧ X.cell? ⟨w.heap.size, 1, none⟩ = some (.int .i64 (z : Int)) from ⟨(hX.cell hS).trans x0, (hX.cell hS).trans x1⟩)
  have KC : Below w1.heap.size w1 w1 := Below.refl _ _
  have hss : (sn ++ inT ++ zn).size ≤ 40 := by simp only [ByteArray.size_append]; have : inT.size = 4 := rfl; omega
  go_cut [3] (fun v wx => v = .string (sn ++ inT ++ zn) ∧ Below w1.heap.size w1 wx)
  case first =>
    refine wp_region_held_drew (S := (fun w' => w'.cell? ⟨w.heap.size, 0, none⟩ = some (.int .i64 (s : Int)) ∧ w'.cell? ⟨w.heap.size, 1, none⟩ = some (.int .i64 (z : Int)))) (by kernel_rfl) ?_ (fun hHeld => ?_)
    · exact ⟨x0, x1⟩
    refine wpAnyH_take (i := 1) (v := .pointer (some ⟨w.heap.size, 0, none⟩)) rfl (by kernel_rfl) (by kernel_rfl) (by kernel_rfl) (fun _ _ _ h => h) (Or.inl ⟨by rfl, ?_⟩) (by assumption) ?_
    · intro w hSw; (try dsimp only at hSw); first | (go_simp; done) | (go_simp; with_reducible rfl) | (go_simp; omega) | (go_simp; intro hx; exfalso; omega)
    try simp only [Act.put, List.setIfInBounds_toArray, List.set_cons_zero, List.set_cons_succ]
    refine wpAnyH_take (i := 2) (v := .int .i64 (s : Int)) rfl (by kernel_rfl) (by kernel_rfl) (by kernel_rfl) (fun _ _ _ h => h) (Or.inl ⟨by rfl, ?_⟩) (by assumption) ?_
    · intro w hSw; (try dsimp only at hSw); first | (go_simp; done) | (go_simp; with_reducible rfl) | (go_simp; omega) | (go_simp; intro hx; exfalso; omega)
    try simp only [Act.put, List.setIfInBounds_toArray, List.set_cons_zero, List.set_cons_succ]
    refine wpAnyH_take (i := 7) (v := .pointer (some ⟨w.heap.size, 1, none⟩)) rfl (by kernel_rfl) (by kernel_rfl) (by kernel_rfl) (fun _ _ _ h => h) (Or.inl ⟨by rfl, ?_⟩) (by assumption) ?_
    · intro w hSw; (try dsimp only at hSw); first | (go_simp; done) | (go_simp; with_reducible rfl) | (go_simp; omega) | (go_simp; intro hx; exfalso; omega)
    try simp only [Act.put, List.setIfInBounds_toArray, List.set_cons_zero, List.set_cons_succ]
    refine wpAnyH_take (i := 8) (v := .int .i64 (z : Int)) rfl (by kernel_rfl) (by kernel_rfl) (by kernel_rfl) (fun _ _ _ h => h) (Or.inl ⟨by rfl, ?_⟩) (by assumption) ?_
    · intro w hSw; (try dsimp only at hSw); first | (go_simp; done) | (go_simp; with_reducible rfl) | (go_simp; omega) | (go_simp; intro hx; exfalso; omega)
    try simp only [Act.put, List.setIfInBounds_toArray, List.set_cons_zero, List.set_cons_succ]
    refine wpAnyH_ready (rs := [0]) (by kernel_rfl) (by simp) ?_
    refine AllReadyH.cons rfl (fun K hK => ?_) AllReadyH.nil
    go_simp
    go_wp2_with (go_at_call 21; refine (l21States_any w1.heap.size _ (by first | exact Nat.le_refl _ | omega | (simp; omega))).mono ?_; rintro e wa ⟨rfl, ha1, ha2, ha3⟩; have KA : Below w1.heap.size w1 wa := Below.trans (show Below w1.heap.size w1 _ from by repeat (first | assumption | exact Below.refl _ _ | refine Below.drew ?_ | refine Below.alloc ?_ (by first | omega | (simp; done) | (simp; omega)) _)) ha1; have hKA := KA.size; have c1 : wa.cell? ⟨w1.heap.size, s, none⟩ = some (.string sn) := ha3 s _ qs; clear ha3)
    refine hK.out _ _ (HX.out _ KA) (fun hHeld => ?_)
    clear hK K
    refine wpAnyH_take (i := 3) (v := .pointer (some ⟨w1.heap.size, s, none⟩)) rfl (by kernel_rfl) (by kernel_rfl) (by kernel_rfl) (fun _ _ _ h => h) (Or.inl ⟨by rfl, ?_⟩) (by assumption) ?_
    · intro w hSw; (try dsimp only at hSw); first | (go_simp; done) | (go_simp; with_reducible rfl) | (go_simp; omega) | (go_simp; intro hx; exfalso; omega)
    try simp only [Act.put, List.setIfInBounds_toArray, List.set_cons_zero, List.set_cons_succ]
    refine wpAnyH_ready (rs := [4, 6]) (by kernel_rfl) (by simp) ?_
    refine AllReadyH.cons rfl (fun K hK => ?_) ?_
    · go_simp
      refine hK.out _ _ (HX.out _ KA) (fun hHeld => ?_)
      clear hK K
      refine wpAnyH_take (i := 5) (v := .string (sn ++ ⟨#[32, 105, 110, 32]⟩)) rfl (by kernel_rfl) (by kernel_rfl) (by kernel_rfl) (fun _ _ _ h => h) (Or.inl ⟨by rfl, ?_⟩) (by assumption) ?_
      · intro w hSw; (try dsimp only at hSw); first | (go_simp; done) | (go_simp; with_reducible rfl) | (go_simp; omega) | (go_simp; intro hx; exfalso; omega)
      try simp only [Act.put, List.setIfInBounds_toArray, List.set_cons_zero, List.set_cons_succ]
      refine wpAnyH_ready (rs := [6]) (by kernel_rfl) (by simp) ?_
      refine AllReadyH.cons rfl (fun K hK => ?_) AllReadyH.nil
      go_simp
      go_wp2_with (go_at_call 22; refine (l21Zones_any wa.heap.size _ (by first | exact Nat.le_refl _ | omega | (simp; omega))).mono ?_; rintro e wb ⟨rfl, hz1, hz2, hz3⟩; have KB : Below w1.heap.size w1 wb := KA.trans (hz1.mono hKA); have hKB := KB.size; have c1 : wb.cell? ⟨w1.heap.size, s, none⟩ = some (.string sn) := (hz1.cell ha2).trans c1; have c2 : wb.cell? ⟨wa.heap.size, z, none⟩ = some (.string zn) := hz3 z _ qz; clear hz3)
      refine hK.out _ _ (HX.out _ KB) (fun hHeld => ?_)
      clear hK K
      refine wpAnyH_take (i := 9) (v := .pointer (some ⟨wa.heap.size, z, none⟩)) rfl (by kernel_rfl) (by kernel_rfl) (by kernel_rfl) (fun _ _ _ h => h) (Or.inl ⟨by rfl, ?_⟩) (by assumption) ?_
      · intro w hSw; (try dsimp only at hSw); first | (go_simp; done) | (go_simp; with_reducible rfl) | (go_simp; omega) | (go_simp; intro hx; exfalso; omega)
      try simp only [Act.put, List.setIfInBounds_toArray, List.set_cons_zero, List.set_cons_succ]
      refine wpAnyH_ready (rs := [10]) (by kernel_rfl) (by simp) ?_
      refine AllReadyH.cons rfl (fun K hK => ?_) AllReadyH.nil
      go_simp
      refine hK.out _ _ (HX.out _ KB) (fun hHeld => ?_)
      clear hK K
      refine wpAnyH_take (i := 11) (v := .string (sn ++ ⟨#[32, 105, 110, 32]⟩ ++ zn)) rfl (by kernel_rfl) (by kernel_rfl) (by kernel_rfl) (fun _ _ _ h => h) (Or.inl ⟨by rfl, ?_⟩) (by assumption) ?_
      · intro w hSw; (try dsimp only at hSw); first | (go_simp; done) | (go_simp; with_reducible rfl) | (go_simp; omega) | (go_simp; intro hx; exfalso; omega)
      try simp only [Act.put, List.setIfInBounds_toArray, List.set_cons_zero, List.set_cons_succ]
      refine wpAnyH_take (i := 12) (v := .string (sn ++ ⟨#[32, 105, 110, 32]⟩ ++ zn)) rfl (by kernel_rfl) (by kernel_rfl) (by kernel_rfl) (fun _ _ _ h => h) (Or.inl ⟨by rfl, ?_⟩) (by assumption) ?_
      · intro w hSw; (try dsimp only at hSw); first | (go_simp; done) | (go_simp; with_reducible rfl) | (go_simp; omega) | (go_simp; intro hx; exfalso; omega)
      try simp only [Act.put, List.setIfInBounds_toArray, List.set_cons_zero, List.set_cons_succ]
      refine wpAnyH_done (by kernel_rfl) ?_ _
      dsimp [Act.put]
      simp only [List.setIfInBounds_toArray, List.set_cons_zero, List.set_cons_succ]
      go_wp2_with fail
      go_meet; exact ⟨rfl, KB⟩
    refine AllReadyH.cons rfl (fun K hK => ?_) AllReadyH.nil
    go_simp
    go_wp2_with (go_at_call 22; refine (l21Zones_any wa.heap.size _ (by first | exact Nat.le_refl _ | omega | (simp; omega))).mono ?_; rintro e wb ⟨rfl, hz1, hz2, hz3⟩; have KB : Below w1.heap.size w1 wb := KA.trans (hz1.mono hKA); have hKB := KB.size; have c1 : wb.cell? ⟨w1.heap.size, s, none⟩ = some (.string sn) := (hz1.cell ha2).trans c1; have c2 : wb.cell? ⟨wa.heap.size, z, none⟩ = some (.string zn) := hz3 z _ qz; clear hz3)
    refine hK.out _ _ (HX.out _ KB) (fun hHeld => ?_)
    clear hK K
    refine wpAnyH_take (i := 9) (v := .pointer (some ⟨wa.heap.size, z, none⟩)) rfl (by kernel_rfl) (by kernel_rfl) (by kernel_rfl) (fun _ _ _ h => h) (Or.inl ⟨by rfl, ?_⟩) (by assumption) ?_
    · intro w hSw; (try dsimp only at hSw); first | (go_simp; done) | (go_simp; with_reducible rfl) | (go_simp; omega) | (go_simp; intro hx; exfalso; omega)
    try simp only [Act.put, List.setIfInBounds_toArray, List.set_cons_zero, List.set_cons_succ]
    refine wpAnyH_ready (rs := [4, 10]) (by kernel_rfl) (by simp) ?_
    refine AllReadyH.cons rfl (fun K hK => ?_) ?_
    · go_simp
      refine hK.out _ _ (HX.out _ KB) (fun hHeld => ?_)
      clear hK K
      refine wpAnyH_take (i := 5) (v := .string (sn ++ ⟨#[32, 105, 110, 32]⟩)) rfl (by kernel_rfl) (by kernel_rfl) (by kernel_rfl) (fun _ _ _ h => h) (Or.inl ⟨by rfl, ?_⟩) (by assumption) ?_
      · intro w hSw; (try dsimp only at hSw); first | (go_simp; done) | (go_simp; with_reducible rfl) | (go_simp; omega) | (go_simp; intro hx; exfalso; omega)
      try simp only [Act.put, List.setIfInBounds_toArray, List.set_cons_zero, List.set_cons_succ]
      refine wpAnyH_ready (rs := [10]) (by kernel_rfl) (by simp) ?_
      refine AllReadyH.cons rfl (fun K hK => ?_) AllReadyH.nil
      go_simp
      refine hK.out _ _ (HX.out _ KB) (fun hHeld => ?_)
      clear hK K
      refine wpAnyH_take (i := 11) (v := .string (sn ++ ⟨#[32, 105, 110, 32]⟩ ++ zn)) rfl (by kernel_rfl) (by kernel_rfl) (by kernel_rfl) (fun _ _ _ h => h) (Or.inl ⟨by rfl, ?_⟩) (by assumption) ?_
      · intro w hSw; (try dsimp only at hSw); first | (go_simp; done) | (go_simp; with_reducible rfl) | (go_simp; omega) | (go_simp; intro hx; exfalso; omega)
      try simp only [Act.put, List.setIfInBounds_toArray, List.set_cons_zero, List.set_cons_succ]
      refine wpAnyH_take (i := 12) (v := .string (sn ++ ⟨#[32, 105, 110, 32]⟩ ++ zn)) rfl (by kernel_rfl) (by kernel_rfl) (by kernel_rfl) (fun _ _ _ h => h) (Or.inl ⟨by rfl, ?_⟩) (by assumption) ?_
      · intro w hSw; (try dsimp only at hSw); first | (go_simp; done) | (go_simp; with_reducible rfl) | (go_simp; omega) | (go_simp; intro hx; exfalso; omega)
      try simp only [Act.put, List.setIfInBounds_toArray, List.set_cons_zero, List.set_cons_succ]
      refine wpAnyH_done (by kernel_rfl) ?_ _
      dsimp [Act.put]
      simp only [List.setIfInBounds_toArray, List.set_cons_zero, List.set_cons_succ]
      go_wp2_with fail
      go_meet; exact ⟨rfl, KB⟩
    refine AllReadyH.cons rfl (fun K hK => ?_) AllReadyH.nil
    go_simp
    refine hK.out _ _ (HX.out _ KB) (fun hHeld => ?_)
    clear hK K
    refine wpAnyH_ready (rs := [4]) (by kernel_rfl) (by simp) ?_
    refine AllReadyH.cons rfl (fun K hK => ?_) AllReadyH.nil
    go_simp
    refine hK.out _ _ (HX.out _ KB) (fun hHeld => ?_)
    clear hK K
    refine wpAnyH_take (i := 5) (v := .string (sn ++ ⟨#[32, 105, 110, 32]⟩)) rfl (by kernel_rfl) (by kernel_rfl) (by kernel_rfl) (fun _ _ _ h => h) (Or.inl ⟨by rfl, ?_⟩) (by assumption) ?_
    · intro w hSw; (try dsimp only at hSw); first | (go_simp; done) | (go_simp; with_reducible rfl) | (go_simp; omega) | (go_simp; intro hx; exfalso; omega)
    try simp only [Act.put, List.setIfInBounds_toArray, List.set_cons_zero, List.set_cons_succ]
    refine wpAnyH_take (i := 11) (v := .string (sn ++ ⟨#[32, 105, 110, 32]⟩ ++ zn)) rfl (by kernel_rfl) (by kernel_rfl) (by kernel_rfl) (fun _ _ _ h => h) (Or.inl ⟨by rfl, ?_⟩) (by assumption) ?_
    · intro w hSw; (try dsimp only at hSw); first | (go_simp; done) | (go_simp; with_reducible rfl) | (go_simp; omega) | (go_simp; intro hx; exfalso; omega)
    try simp only [Act.put, List.setIfInBounds_toArray, List.set_cons_zero, List.set_cons_succ]
    refine wpAnyH_take (i := 12) (v := .string (sn ++ ⟨#[32, 105, 110, 32]⟩ ++ zn)) rfl (by kernel_rfl) (by kernel_rfl) (by kernel_rfl) (fun _ _ _ h => h) (Or.inl ⟨by rfl, ?_⟩) (by assumption) ?_
    · intro w hSw; (try dsimp only at hSw); first | (go_simp; done) | (go_simp; with_reducible rfl) | (go_simp; omega) | (go_simp; intro hx; exfalso; omega)
    try simp only [Act.put, List.setIfInBounds_toArray, List.set_cons_zero, List.set_cons_succ]
    refine wpAnyH_done (by kernel_rfl) ?_ _
    dsimp [Act.put]
    simp only [List.setIfInBounds_toArray, List.set_cons_zero, List.set_cons_succ]
    go_wp2_with fail
    go_meet; exact ⟨rfl, KB⟩
  obtain ⟨rfl, KB⟩ := hcut
  have hin : inT.size = 4 := rfl
  have B3 := below_step hba KB (Nat.le_refl _); replace x0 := (HX.out _ KB).1; replace x2 := (KB.cell hS).trans x2
  by_cases hd : (s : Int) = 2
  · have hd' : ((s : Int) == 2) = true := by simpa using hd
    have HD := hide hd; clear hd
    go_wp2_with (go_at_call 23; refine (l1Num_any _ _ (by omega) (by omega)).mono ?_; rintro e w4 ⟨rfl, hb4⟩)
    go_ret
    exact ⟨ret_str (by rw [HF.out, if_pos HD.out]; rw [← ba_assoc]; rfl), below_step B3 hb4 (Nat.le_refl _)⟩
  · have hd' : ((s : Int) == 2) = false := by simpa using hd
    have HD := hide hd; clear hd
    go_wp2_with fail
    go_ret
    exact ⟨ret_str (by rw [HF.out, if_neg HD.out]), B3⟩
set_option maxHeartbeats 1000000 in
theorem GripText_any (g : GripState) (w : World) (ht : Tab10 w) (hn : NamesIs w) :
    Calls Tryd.prog 7 #[.agg #[.int .i64 g.state, .int .i64 g.zone, .int .i64 g.force, .int .i64 g.fails]] w fun e w' => e = .returned (.tuple #[.string (gtxV g), .bool (gripB g)]) ∧ Below w.heap.size w w' := by
  have hba : Below w.heap.size w (w.alloc (.cells #[.int .i64 g.state, .int .i64 g.zone, .int .i64 g.force, .int .i64 g.fails] 26)) := (Below.refl _ _).alloc (Nat.le_refl _) _
  have hbx := hide (fun d => GripState.box_after w g 26 d)
  cases hp : gripB g
  · have HP := hide hp; clear hp
    have HV := hide (show gtxV g = ⟨#[]⟩ by rw [gtxV, HP.out]; rfl)
    go_enter Tryd.func7, Tryd.ntmps7
    go_wp2_with (go_at_call 13; refine (IsGripState_is HP.out _).mono ?_; rintro e w1 ⟨rfl, hb1⟩)
    go_ret2
    rw [HV.out]
    exact ⟨rfl, below_step hba hb1 (Nat.le_refl _)⟩
  · have HP := hide hp; clear hp
    have hn1 := gripB_nums HP.out
    have hn2 : (0 ≤ g.state ∧ g.state ≤ 4) ∧ (0 ≤ g.zone ∧ g.zone ≤ 3) ∧ (0 ≤ g.force ∧ g.force ≤ 999999) := ⟨hn1.1, hn1.2.1, by omega, by omega⟩
    clear hn1
    have HV := hide (show gtxV g = gtxF g by rw [gtxV, if_pos HP.out])
    go_enter Tryd.func7, Tryd.ntmps7
    go_wp2_with (first | (go_at_call 13; refine (IsGripState_is HP.out _).mono ?_; rintro e w1 ⟨rfl, hb1⟩; obtain ⟨z0, z1, z2, z3⟩ := hbx.out ⟨_, hb1⟩) | (go_at_call 14; refine (gripText_any g _ hn2 ((ht.below hba).below hb1) ((hn.below hba).below hb1)).mono ?_; rintro e w2 ⟨rfl, hb2⟩))
    go_ret2
    rw [HV.out]
    exact ⟨rfl, below_step (below_step hba hb1 (Nat.le_refl _)) hb2 (Nat.le_refl _)⟩
set_option maxHeartbeats 1000000 in
theorem GripText_spec (g : GripState) (w : World) :
    Calls Tryd.prog 5 #[.agg #[.int .i64 g.state, .int .i64 g.zone, .int .i64 g.force, .int .i64 g.fails]] w fun e w' => e = .returned (.tuple #[.string (gtxV g), .bool (gripB g)]) ∧ Below w.heap.size w w' := by
  have hba : Below w.heap.size w (w.alloc (.cells #[.int .i64 g.state, .int .i64 g.zone, .int .i64 g.force, .int .i64 g.fails] 26)) := (Below.refl _ _).alloc (Nat.le_refl _) _
  have hbx := hide (fun d => GripState.box_after w g 26 d)
  cases hp : gripB g
  · have HP := hide hp; clear hp
    have HV := hide (show gtxV g = ⟨#[]⟩ by rw [gtxV, HP.out]; rfl)
    go_enter Tryd.func5, Tryd.ntmps5
    go_wp2_with (go_at_call 11; refine (l21Good_is HP.out _).mono ?_; rintro e w1 ⟨rfl, hb1⟩)
    go_ret2
    rw [HV.out]
    exact ⟨rfl, below_step hba hb1 (Nat.le_refl _)⟩
  · have HP := hide hp; clear hp
    have hn1 := gripB_nums HP.out
    have hn2 : (0 ≤ g.state ∧ g.state ≤ 4) ∧ (0 ≤ g.zone ∧ g.zone ≤ 3) ∧ (0 ≤ g.force ∧ g.force ≤ 999999) := ⟨hn1.1, hn1.2.1, by omega, by omega⟩
    clear hn1
    have HV := hide (show gtxV g = gtxF g by rw [gtxV, if_pos HP.out])
    go_enter Tryd.func5, Tryd.ntmps5
    go_wp2_with (first | (go_at_call 11; refine (l21Good_is HP.out _).mono ?_; rintro e w1 ⟨rfl, hb1⟩; obtain ⟨z0, z1, z2, z3⟩ := hbx.out ⟨_, hb1⟩) | (go_at_call 12; refine (l21Text_any g _ hn2).mono ?_; rintro e w2 ⟨rfl, hb2⟩))
    go_ret2
    rw [HV.out]
    exact ⟨rfl, below_step (below_step hba hb1 (Nat.le_refl _)) hb2 (Nat.le_refl _)⟩
end Go.Proofs.YtkdnkhbcbcffeaaDoor
