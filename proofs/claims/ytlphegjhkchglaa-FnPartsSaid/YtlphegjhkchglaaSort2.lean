/- Uses of parts: the program's sorts: the indices in the order of their days (slices.SortStableFunc), what is missed (slices.Sort). -/
import Derived.Test.YtlphegjhkchglaaSrt
import Derived.Test.YtlphegjhkchglaaCmp
import Derived.Test.YtlphegjhkchglaaRowI
import Derived.Test.YtlphegjhkchglaaUsesP
namespace Go.Proofs.Ytlphegjhkchglaa
open Go Go.RowKit
set_option linter.unusedVariables false
set_option linter.unusedSimpArgs false
set_option maxHeartbeats 1000000 in
theorem use1_any (U : List Use) (A1 : Option Addr) (c1 pb bu ou i j : Nat) (di dj : Int) (W : World) (hA : A1 = some ⟨bu, ou, none⟩) (hi : i < U.length) (hj : j < U.length) (hl : U.length ≤ 20) (hbox : W.cell? ⟨pb, 0, none⟩ = some (.slice A1 U.length c1)) (y1 : W.cell? ⟨bu, ou + i * 3 + 1, none⟩ = some (.int .i64 di)) (y2 : W.cell? ⟨bu, ou + j * 3 + 1, none⟩ = some (.int .i64 dj)) :
    Calls Try.prog 84 #[.int .i64 i, .int .i64 j, .pointer (some ⟨pb, 0, none⟩)] W fun e w' => e = .returned (.int .i64 (cmpI di dj)) ∧ ∃ q, w' = W.drewN q := by
  subst hA
  have hii : (i : Int) < (U.length : Int) := by omega
  have hjj : (j : Int) < (U.length : Int) := by omega
  go_enter Try.func84, Try.ntmps84
  go_wp2_with fail
  go_quiet ((go_at_call 85; exact Calls.quiet_of_same (Calls.still (Compare_any _ _ _))))
  go_wp2_with fail
  go_ret
  exact ⟨rfl, _, rfl⟩
def ixs (U : List Use) (O : List Nat) (h : ∀ i ∈ O, i < U.length) : Array {i : Nat // i < U.length} := (O.pmap (fun i hi => ⟨i, hi⟩) h).toArray
theorem ixs_val (U : List Use) (O : List Nat) (h : ∀ i ∈ O, i < U.length) : (ixs U O h).toList.map (fun x => x.1) = O := by
  simp [ixs, List.map_pmap]
theorem ixs_size (U : List Use) (O : List Nat) (h : ∀ i ∈ O, i < U.length) : (ixs U O h).size = O.length := by simp [ixs]
theorem order_sort1 (U : List Use) (hU : 0 < U.length) (hU2 : U.length ≤ 20) (O : List Nat) (hO : ∀ i ∈ O, i < U.length) (n : Nat) (hn : O.length = n) (h20 : n ≤ 20) (A1 : Option Addr) (c1 pb B g cap lo : Nat) (w : World)
    (ho : Own encI 1 3 lo w (.slice (some ⟨g, 0, none⟩) n cap) (toI O)) (hbox : w.cell? ⟨pb, 0, none⟩ = some (.slice A1 U.length c1)) (hpb : pb ≠ g) (r1 : Rd Use.enc 3 B w A1 U) (hB : B ≤ g) :
    Calls Try.prog 83 #[.slice (some ⟨g, 0, none⟩) n cap, .func (.func 84) #[] #[.pointer (some ⟨pb, 0, none⟩)]] w fun e w' => e = .returned (.tuple #[]) ∧ Own encI 1 3 lo w' (.slice (some ⟨g, 0, none⟩) n cap) (toI (ordL (gtK (dayU U)) O)) ∧ w.grownBy w' (some g) := by
  have hinh : Inhabited {i : Nat // i < U.length} := ⟨⟨0, hU⟩⟩
  obtain ⟨bu, ou, hA, hbu, hcu⟩ := Use.rd_at r1 (by intro h; subst h; simp at hU)
  let e : {i : Nat // i < U.length} → Value := fun x => .int .i64 (x.1 : Int)
  let f : {i : Nat // i < U.length} → Int := fun x => (x.1 : Int)
  let cf : {i : Nat // i < U.length} → {i : Nat // i < U.length} → Int := fun x y => cmpI (dayU U x.1) (dayU U y.1)
  have he : ∀ x, e x = .int .i64 (f x) := fun _ => rfl
  have hOne : OneCell e := fun x => rfl
  have hd : (ixs U O hO).toList.map f = toI O := by
    rw [show (ixs U O hO).toList.map f = ((ixs U O hO).toList.map (fun x => x.1)).map (fun i : Nat => (i : Int)) by rw [List.map_map]; rfl, ixs_val]; rfl
  have hsz : (ixs U O hO).size = n := by rw [ixs_size, hn]
  obtain ⟨hH, hg⟩ := own_holds he ho (by rw [toI_len, hn]) hd
  have hcell : ∀ (m : Nat) (os : Array Obj) (dk : Array {i : Nat // i < U.length}) (x : {i : Nat // i < U.length}), (sortWorld e w g 0 m dk os).cell? ⟨bu, ou + x.1 * 3 + 1, none⟩ = some (.int .i64 (dayU U x.1)) := fun m os dk x => by
    have hx := List.getElem?_eq_getElem x.2
    rw [dayU_at hx]
    exact sortWorld_cell (by show bu ≠ g; omega) (hcu x.1 _ hx).2.1
  have hcmp : CmpLays1 Try.prog 84 #[.pointer (some ⟨pb, 0, none⟩)] e cf g 0 (ixs U O hO).size w := fun m os dk hs x y =>
    (use1_any U A1 c1 pb bu ou x.1 y.1 (dayU U x.1) (dayU U y.1) (sortWorld e w g 0 m dk os) hA x.2 y.2 hU2 (sortWorld_cell hpb hbox) (hcell m os dk x) (hcell m os dk y)).mono fun e' w' ⟨h1, q, hq⟩ => ⟨h1, q, #[], by rw [hq, Sort.grow_empty]⟩
  have key := stable_any e hOne cf 84 #[.pointer (some ⟨pb, 0, none⟩)] g cap (ixs U O hO) w (fun _ _ => by kernel_rfl) hcmp hH hg (by omega)
  rw [hsz] at key
  refine key.mono ?_
  rintro e' w' ⟨rfl, m, os, rfl⟩
  have hgg : ∀ a b : {i : Nat // i < U.length}, gtK (dayU U) a.1 b.1 = ltOf cf b a := fun a b => by
    simp only [gtK, ltOf, cf, cmpI_neg]
  have hlist : (Sort.insertionSort (ltOf cf) (ixs U O hO) 0 n).toList.map f = toI (ordL (gtK (dayU U)) O) := by
    have h1 := insertionSort_list (lt := ltOf cf) (ixs U O hO)
    rw [hsz] at h1
    rw [show ∀ l : List {i : Nat // i < U.length}, l.map f = toI (l.map (fun x => x.1)) from fun l => by rw [toI, List.map_map]; rfl, h1, ordL_map (gt := gtK (dayU U)) (f := fun x : {i : Nat // i < U.length} => x.1) hgg, ixs_val]
  refine ⟨rfl, ?_, sortWorld_grown⟩
  have := own_sorted he (m := m) (os := os) ho (by rw [toI_len, hn]) (d := Sort.insertionSort (ltOf cf) (ixs U O hO) 0 n) (by
    have h1 := insertionSort_list (lt := ltOf cf) (ixs U O hO)
    rw [hsz] at h1
    rw [← Array.length_toList, h1, ordL_len, Array.length_toList, hsz])
  rwa [hlist] at this
set_option maxRecDepth 100000 in
set_option maxHeartbeats 1000000 in
theorem ins_none (p : Option Addr) (cap f : Nat) (cb : Array Value) (w : World) : Calls Try.prog 96 #[.slice p 0 cap, .int .i64 0, .int .i64 0, .func (.func f) #[] cb] w fun e w' => e = .returned (.tuple #[]) ∧ w = w' := by
  go_enter Try.func96, Try.ntmps96
  go_wp2_with fail
  refine wp_loop_rounds 1 ?_
  rw [rounds_succ]
  go_wp2_with fail
  go_end0
  exact ⟨rfl, rfl⟩
set_option maxRecDepth 100000 in
set_option maxHeartbeats 1000000 in
theorem stableC_none (p : Option Addr) (cap f : Nat) (cb : Array Value) (w : World) : Calls Try.prog 92 #[.slice p 0 cap, .int .i64 0, .func (.func f) #[] cb] w fun e w' => e = .returned (.tuple #[]) ∧ w = w' := by
  go_enter Try.func92, Try.ntmps92
  go_wp2_with fail
  refine wp_loop_rounds 1 ?_
  rw [rounds_succ]
  go_wp2_with (go_at_call 96; refine (ins_none _ _ _ _ _).mono ?_; rintro e w1 ⟨rfl, rfl⟩)
  refine wp_loop_rounds 1 ?_
  rw [rounds_succ]
  go_wp2_with fail
  go_end0
  exact ⟨rfl, rfl⟩
theorem stable_none (p : Option Addr) (cap f : Nat) (cb : Array Value) (w : World) : Calls Try.prog 83 #[.slice p 0 cap, .func (.func f) #[] cb] w fun e w' => e = .returned (.tuple #[]) ∧ w = w' := by
  go_enter Try.func83, Try.ntmps83
  go_wp2_with (go_at_call 92; refine (stableC_none _ _ _ _ _).mono ?_; rintro e w1 ⟨rfl, rfl⟩)
  go_end0
  exact ⟨rfl, rfl⟩
theorem order_sort (U : List Use) (hU2 : U.length ≤ 20) (O : List Nat) (hO : ∀ i ∈ O, i < U.length) (n : Nat) (hn : O.length = n) (h20 : n ≤ 20) (A1 : Option Addr) (c1 pb B g cap lo : Nat) (w : World)
    (ho : Own encI 1 3 lo w (.slice (some ⟨g, 0, none⟩) n cap) (toI O)) (hbox : w.cell? ⟨pb, 0, none⟩ = some (.slice A1 U.length c1)) (hpb : pb ≠ g) (r1 : Rd Use.enc 3 B w A1 U) (hB : B ≤ g) :
    Calls Try.prog 83 #[.slice (some ⟨g, 0, none⟩) n cap, .func (.func 84) #[] #[.pointer (some ⟨pb, 0, none⟩)]] w fun e w' => e = .returned (.tuple #[]) ∧ Own encI 1 3 lo w' (.slice (some ⟨g, 0, none⟩) n cap) (toI (ordL (gtK (dayU U)) O)) ∧ w.grownBy w' (some g) := by
  by_cases hU : 0 < U.length
  · exact order_sort1 U hU hU2 O hO n hn h20 A1 c1 pb B g cap lo w ho hbox hpb r1 hB
  · have hO0 : O = [] := by
      cases O with
      | nil => rfl
      | cons a r => have := hO a (by simp); omega
    subst hO0
    subst hn
    exact (stable_none _ _ _ _ _).mono fun e w' ⟨h1, h2⟩ => ⟨h1, by rw [← h2]; exact ho, by rw [← h2]; exact moved_refl w g⟩
theorem sort_ints (M : List Int) (n : Nat) (hn : M.length = n) (h20 : n ≤ 1000) (g cap lo : Nat) (w : World) (ho : Own encI 1 3 lo w (.slice (some ⟨g, 0, none⟩) n cap) M) :
    Calls Try.prog 86 #[.slice (some ⟨g, 0, none⟩) n cap] w fun e w' => e = .returned (.tuple #[]) ∧ Own encI 1 3 lo w' (.slice (some ⟨g, 0, none⟩) n cap) (srtI M) ∧ w.grownBy w' (some g) := by
  have he : ∀ x : Int, (Value.int .i64) x = .int .i64 (id x) := fun _ => rfl
  obtain ⟨hH, hg⟩ := own_holds (e := Value.int .i64) (f := id) he ho hn (d := M.toArray) (by simp)
  have key := Try.slices_Sort_int g 0 cap M w hH hg (by omega)
  rw [hn] at key
  refine key.mono ?_
  rintro e' w' ⟨rfl, m, os, rfl⟩
  have hs := own_sorted (e := Value.int .i64) (f := id) he (m := m) (os := os) ho hn (d := (M.mergeSort fun x y => decide (x ≤ y)).toArray) (by simp [hn])
  have hq : ((M.mergeSort fun x y => decide (x ≤ y)).toArray.toList.map id) = srtI M := by
    rw [List.toList_toArray, List.map_id]
    refine srtI_is ?_ (List.mergeSort_perm _ _)
    have := List.pairwise_mergeSort (le := fun x y : Int => decide (x ≤ y)) (fun a b c h1 h2 => by simp at *; omega) (fun a b => by simp; omega) M
    exact this.imp (fun h => by simpa using h)
  rw [hq] at hs
  exact ⟨rfl, hs, sortWorld_grown⟩
end Go.Proofs.Ytlphegjhkchglaa
