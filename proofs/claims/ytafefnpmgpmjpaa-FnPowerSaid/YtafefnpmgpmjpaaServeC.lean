/- The comparisons of consumers and their stable sorts. -/
import Derived.Test.YtafefnpmgpmjpaaSrtK
import Derived.Test.YtafefnpmgpmjpaaCmp
import Derived.Test.YtafefnpmgpmjpaaStConsumer
import Derived.Test.YtafefnpmgpmjpaaLibConsumer
import Derived.Test.YtafefnpmgpmjpaaShelf
namespace Go.Proofs.Ytafefnpmgpmjpaa
open Go Go.RowKit
set_option linter.unusedVariables false
set_option linter.unusedSimpArgs false
instance : Inhabited Consumer := ⟨⟨ByteArray.empty, 0, 0⟩⟩
def rankC (x y : Consumer) : Int := cmpI x.rank y.rank
def offC (x y : Consumer) : Int := orL [cmpI y.rank x.rank, cmpI y.watts x.watts]
theorem grow_two (W : World) (a b : Obj) : (W.alloc a).alloc b = Sort.grow (W.drewN 0) #[a, b] := by
  rw [Sort.alloc_eq_grow, Sort.alloc_eq_grow, Sort.grow_grow]; rfl
theorem serve1_any (x y : Consumer) (W : World) :
    Calls Try.prog 71 #[.agg (Consumer.enc x).toArray, .agg (Consumer.enc y).toArray] W fun e w' => e = .returned (.int .i64 (rankC x y)) ∧ ∃ q os', w' = Sort.grow (W.drewN q) os' := by
  show Calls Try.prog 71 #[.agg #[.string x.name, .int .i64 x.watts, .int .i64 x.rank], .agg #[.string y.name, .int .i64 y.watts, .int .i64 y.rank]] W _
  go_enter Try.func71, Try.ntmps71
  go_wp2_with (go_at_call 72; refine (Compare_any _ _ _).mono ?_; rintro e w1 ⟨rfl, rfl⟩)
  go_ret
  exact ⟨rfl, 0, _, grow_two _ _ _⟩
set_option maxRecDepth 100000 in
set_option maxHeartbeats 1000000 in
theorem off1_any (x y : Consumer) (W : World) :
    Calls Try.prog 74 #[.agg (Consumer.enc x).toArray, .agg (Consumer.enc y).toArray] W fun e w' => e = .returned (.int .i64 (offC x y)) ∧ ∃ q os', w' = Sort.grow (W.drewN q) os' := by
  show Calls Try.prog 74 #[.agg #[.string x.name, .int .i64 x.watts, .int .i64 x.rank], .agg #[.string y.name, .int .i64 y.watts, .int .i64 y.rank]] W _
  go_enter Try.func74, Try.ntmps74
  go_wp2_with fail
  refine wp_region_tail 10 (by kernel_rfl) (by kernel_rfl) ?_
  simp only [List.take_succ_cons, List.take_zero, List.drop_succ_cons, List.drop_zero]
  repeat (first | still_call (Calls.still (Compare_any _ _ _)) | still_step)
  refine wpStill_nil ?_
  go_wp2_with (go_at_call 75; refine (Or_any [cmpI y.rank x.rank, cmpI y.watts x.watts] _ 2 _ (by simp) (rd_two (cell_new_d _ _ _ _ 0 _ (by simp) rfl) (cell_new_d _ _ _ _ 1 _ (by simp) rfl))).mono ?_; rintro e w1 ⟨rfl, rfl⟩)
  go_ret
  exact ⟨rfl, 1, #[.cells #[.string x.name, .int .i64 x.watts, .int .i64 x.rank] 65, .cells #[.string y.name, .int .i64 y.watts, .int .i64 y.rank] 65, .cells #[.int .i64 (cmpI y.rank x.rank), .int .i64 (cmpI y.watts x.watts)] 3], by rw [Sort.alloc_eq_grow, Sort.alloc_eq_grow, Sort.alloc_eq_grow, Sort.grow_grow, Sort.grow_grow]; rfl⟩
set_option maxRecDepth 100000 in
set_option maxHeartbeats 2000000 in
theorem stableCK_any (cf : Consumer → Consumer → Int) (f : Nat) (g cap n : Nat) (d : Array Consumer) (w : World) (hn : d.size = n)
    (hf : ∀ args w, (callFunc f args).run Try.prog w = .ok (.enter f args) w) (hcmp : CmpLays Try.prog f #[] Consumer.enc 3 cf g 0 n w) (hH : Sort.HoldsK Consumer.enc 3 w g 0 d) (hg : g < w.heap.size) (h8 : n ≤ 8) :
    Calls Try.prog 70 #[.slice (some ⟨g, 0, none⟩) n cap, .func (.func f) #[] #[]] w fun r w' => r = .returned (.tuple #[]) ∧ ∃ m os, w' = sortWorldK Consumer.enc 3 w g 0 m (Sort.insertionSort (ltOf cf) d 0 n) os := by
  subst hn
  have key := Try.insertionSortCmpFunc 3 (fun _ => by kernel_rfl) (fun _ => by kernel_rfl) Consumer.enc Consumer.enc_len Consumer.enc_one cf f #[] g 0 cap 0 d.size d w hf hcmp hH hg (Nat.zero_le _) (Nat.le_refl _) (by omega)
  have HK := hide key; clear key hcmp hH
  have h19 : (d.size : Int) < 20 := by omega
  have hC : Calls Try.prog 85 #[.slice (some ⟨g, 0, none⟩) d.size cap, .int .i64 d.size, .func (.func f) #[] #[]] w fun r w' => r = .returned (.tuple #[]) ∧ ∃ m os, w' = sortWorldK Consumer.enc 3 w g 0 m (Sort.insertionSort (ltOf cf) d 0 d.size) os := by
    go_enter Try.func85, Try.ntmps85
    go_wp2_with fail
    refine wp_loop_rounds 1 ?_
    rw [rounds_succ]
    go_wp2_with (go_at_call 88; refine HK.out.mono ?_; rintro e w1 ⟨rfl, hS1⟩)
    refine wp_loop_rounds 1 ?_
    rw [rounds_succ]
    go_wp2_with fail
    go_end0
    exact ⟨rfl, hS1⟩
  have HC := hide hC; clear hC
  go_enter Try.func70, Try.ntmps70
  go_wp2_with (go_at_call 85; refine HC.out.mono ?_; rintro e w1 ⟨rfl, hS1⟩)
  go_end0
  exact ⟨rfl, hS1⟩
theorem stableK (cf : Consumer → Consumer → Int) (f : Nat) (g cap n lo : Nat) (L : List Consumer) (w : World) (hn : L.length = n) (hf : ∀ args w, (callFunc f args).run Try.prog w = .ok (.enter f args) w)
    (hcmp : ∀ (x y : Consumer) (W : World), Calls Try.prog f #[.agg (Consumer.enc x).toArray, .agg (Consumer.enc y).toArray] W fun e w' => e = .returned (.int .i64 (cf x y)) ∧ ∃ q os', w' = Sort.grow (W.drewN q) os')
    (ho : Own Consumer.enc 3 65 lo w (.slice (some ⟨g, 0, none⟩) n cap) L) (h8 : n ≤ 8) :
    Calls Try.prog 70 #[.slice (some ⟨g, 0, none⟩) n cap, .func (.func f) #[] #[]] w fun e w' => e = .returned (.tuple #[]) ∧ Own Consumer.enc 3 65 lo w' (.slice (some ⟨g, 0, none⟩) n cap) (ordL (fun c x => ltOf cf x c) L) ∧ w.grownBy w' (some g) := by
  obtain ⟨hH, hg⟩ := ownK_holds Consumer.enc_len (d := L.toArray) ho hn (by simp)
  refine (stableCK_any cf f g cap n L.toArray w (by simpa using hn) hf (fun m os dk _ x y => hcmp x y _) hH hg h8).mono ?_
  rintro e w' ⟨rfl, m, os, rfl⟩
  have h1 := insertionSort_list (lt := ltOf cf) L.toArray
  rw [show L.toArray.size = n by simpa using hn] at h1
  have h2 := ownK_sorted Consumer.enc_len (m := m) (os := os) ho hn (d := Sort.insertionSort (ltOf cf) L.toArray 0 n) (by rw [← Array.length_toList, h1, ordL_len]; simpa using hn)
  rw [h1] at h2
  exact ⟨rfl, by simpa using h2, sortWorld_grown (enc := id) (dk := Sort.flatK Consumer.enc 3 (Sort.insertionSort (ltOf cf) L.toArray 0 n)) (m := m) (os := os) (off := 0)⟩
theorem stableK_none (f : Nat) (p : Option Addr) (cap : Nat) (w : World) : Calls Try.prog 70 #[.slice p 0 cap, .func (.func f) #[] #[]] w fun e w' => e = .returned (.tuple #[]) ∧ w = w' := by
  have h0 : Calls Try.prog 88 #[.slice p 0 cap, .int .i64 0, .int .i64 0, .func (.func f) #[] #[]] w fun e w' => e = .returned (.tuple #[]) ∧ w = w' := by
    go_enter Try.func88, Try.ntmps88
    go_wp2_with fail
    refine wp_loop_rounds 1 ?_
    rw [rounds_succ]
    go_wp2_with fail
    go_end0
    exact ⟨rfl, rfl⟩
  have H0 := hide h0; clear h0
  have h1 : Calls Try.prog 85 #[.slice p 0 cap, .int .i64 0, .func (.func f) #[] #[]] w fun e w' => e = .returned (.tuple #[]) ∧ w = w' := by
    go_enter Try.func85, Try.ntmps85
    go_wp2_with fail
    refine wp_loop_rounds 1 ?_
    rw [rounds_succ]
    go_wp2_with (go_at_call 88; refine H0.out.mono ?_; rintro e w1 ⟨rfl, rfl⟩)
    refine wp_loop_rounds 1 ?_
    rw [rounds_succ]
    go_wp2_with fail
    go_end0
    exact ⟨rfl, rfl⟩
  have H1 := hide h1; clear h1
  go_enter Try.func70, Try.ntmps70
  go_wp2_with (go_at_call 85; refine H1.out.mono ?_; rintro e w1 ⟨rfl, rfl⟩)
  go_end0
  exact ⟨rfl, rfl⟩
end Go.Proofs.Ytafefnpmgpmjpaa
