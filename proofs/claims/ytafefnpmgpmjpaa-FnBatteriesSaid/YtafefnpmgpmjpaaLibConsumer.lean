/- The library's generic functions at slices of Consumer: each walked once. Slices have at most 10^8 elements. -/
import Derived.Test.YtafefnpmgpmjpaaStConsumer
import Derived.Lib.Overlaps
import Derived.Laws.IdiomCopy
import Derived.Lib.AppendZeros
import Derived.Laws.Externs
import Derived.Deep.RegionLaw
import Derived.Lib.LazyBuf
namespace Go.Proofs.Ytafefnpmgpmjpaa
open Go Go.RowKit
namespace Consumer
def valC (c : Consumer) : Value := .agg #[.string c.name, .int .i64 c.watts, .int .i64 c.rank]
/- what a predicate's function value is to do: in every later world it answers p, and makes memory alone -/
def Pred (g : Nat) (caps : Array Value) (p : Consumer → Bool) (L : List Consumer) (w : World) : Prop := EntersF Try.prog g ∧ ∀ (W : World) (c : Consumer), c ∈ L → Below w.heap.size w W → Calls Try.prog g (#[.agg #[.string c.name, .int .i64 c.watts, .int .i64 c.rank]] ++ caps) W fun e w' => e = .returned (.bool (p c)) ∧ Below W.heap.size W w'
theorem Pred.is {g : Nat} {caps : Array Value} {p : Consumer → Bool} {L : List Consumer} {w W : World} {c : Consumer} {b : Bool} (h : Pred g caps p L w) (hm : c ∈ L) (hb : Below w.heap.size w W) (hp : p c = b) : Calls Try.prog g (#[.agg #[.string c.name, .int .i64 c.watts, .int .i64 c.rank]] ++ caps) W fun e w' => e = .returned (.bool b) ∧ Below W.heap.size W w' := hp ▸ h.2 W c hm hb
theorem Pred.later {g : Nat} {caps : Array Value} {p : Consumer → Bool} {L : List Consumer} {w w1 : World} (h : Pred g caps p L w) (hb : Below w.heap.size w w1) : Pred g caps p L w1 := ⟨h.1, fun W c hm hW => h.2 W c hm (below_step hb hW (Nat.le_refl _))⟩
set_option maxHeartbeats 400000 in
theorem IndexFunc_any (g : Nat) (caps : Array Value) (p : Consumer → Bool) (L : List Consumer) (A : Option Addr) (cap : Nat) (w : World) (hr : Rd enc 3 w.heap.size w A L) (hl : L.length ≤ maxLen) (hp : Pred g caps p L w) :
    Calls Try.prog 87 #[.slice A L.length cap, .func (.func g) #[] caps] w fun e w' => e = .returned (.int .i64 (idxF p L)) ∧ Below w.heap.size w w' := by
  unfold maxLen at hl
  go_enter Try.func87, Try.ntmps87
  go_wp2_with fail
  go_loopw [8] (fun i wr => ∃ k : Nat, k ≤ L.length ∧ i = .int .i64 k ∧ Hid (∀ (j : Nat) (d : Consumer), j < k → L[j]? = some d → p d = false) ∧ Below w.heap.size w wr) (fun i _ => L.length - (intOf i).toNat)
  case atStart => exact ⟨0, Nat.zero_le _, rfl, hide (fun j d hj => absurd hj (Nat.not_lt_zero j)), Below.refl _ _⟩
  case round =>
    obtain ⟨k, hk, rfl, hn, hbel⟩ := hrel
    by_cases hlt : k < L.length
    · have eg : ∀ (args : Array Value) (w : World), (callFunc g args).run Try.prog w = .ok (.enter g args) w := hp.1
      obtain ⟨b, o, rfl, hb, hc⟩ := rd_at hr (by intro h; subst h; simp at hlt)
      have hget := List.getElem?_eq_getElem hlt
      obtain ⟨x0, x1, x2⟩ := hc k _ hget
      have hmem := hide (List.getElem_mem hlt)
      generalize L[k] = c at *
      have HG := hide hget; clear hget hc hr
      replace x0 := below_cell hbel x0
      replace x1 := below_cell hbel x1
      replace x2 := below_cell hbel x2
      cases hpc : p c
      · have H := Lib.hid (Pred.is hp hmem.out hbel hpc)
        go_wp2_with (with_reducible show Calls _ _ _ _ _; refine (H.out).mono ?_; rintro e w1 ⟨rfl, hb1⟩)
        go_roundw
        case rel => exact ⟨k + 1, by omega, by go_num, hide (no_step hn.out HG.out hpc), below_step hbel hb1 (Nat.le_refl _)⟩
        case measure => simp [intOf]; omega
      · have H := Lib.hid (Pred.is hp hmem.out hbel hpc)
        go_wp2_with (with_reducible show Calls _ _ _ _ _; refine (H.out).mono ?_; rintro e w1 ⟨rfl, hb1⟩)
        go_ret
        exact ⟨ret_int (idxF_hit HG.out hpc hn.out).symm, below_step hbel hb1 (Nat.le_refl _)⟩
    · obtain rfl : k = L.length := by omega
      go_wp2_with fail
      go_ret
      exact ⟨ret_int (idxF_none hn.out).symm, hbel⟩
theorem ContainsFunc_any (g : Nat) (caps : Array Value) (p : Consumer → Bool) (L : List Consumer) (A : Option Addr) (cap : Nat) (w : World) (hr : Rd enc 3 w.heap.size w A L) (hl : L.length ≤ maxLen) (hp : Pred g caps p L w) :
    Calls Try.prog 78 #[.slice A L.length cap, .func (.func g) #[] caps] w fun e w' => e = .returned (.bool (L.any p)) ∧ Below w.heap.size w w' := by
  rcases idxF_cases p L with ⟨h1, h2⟩ | ⟨k, c, h1, hk, _, _, h2, _⟩
  · have H1 := hide h1; clear h1
    go_enter Try.func78, Try.ntmps78
    go_wp2_with (go_at_call 87; refine (IndexFunc_any g caps p L _ _ _ hr hl hp).mono ?_; rw [H1.out]; rintro e w1 ⟨rfl, hb1⟩)
    go_ret
    exact ⟨ret_bool h2.symm, hb1⟩
  · have H1 := hide h1; clear h1
    have hk0 : (0 : Int) ≤ (k : Int) := by omega
    go_enter Try.func78, Try.ntmps78
    go_wp2_with (go_at_call 87; refine (IndexFunc_any g caps p L _ _ _ hr hl hp).mono ?_; rw [H1.out]; rintro e w1 ⟨rfl, hb1⟩)
    go_ret
    exact ⟨ret_bool h2.symm, hb1⟩
theorem infoE : (Try.prog.info? 65).map (fun i => (i.zero, i.size, i.bytes)) = some (some (.agg #[.string ⟨#[]⟩, .int .i64 0, .int .i64 0]), 3, 32) := by kernel_rfl
theorem enc_one (c : Consumer) : ∀ u ∈ c.enc, u.oneCell' = true := by intro u hu; simp only [enc, List.mem_cons, List.not_mem_nil, or_false] at hu; rcases hu with rfl | rfl | rfl <;> rfl
theorem flat_one (L : List Consumer) : ∀ u ∈ L.flatMap enc, u.oneCell' = true := by intro u hu; obtain ⟨c, _, hc⟩ := List.mem_flatMap.1 hu; exact enc_one c u hc
set_option maxHeartbeats 400000 in
theorem Clone_any (L : List Consumer) (A : Option Addr) (cap : Nat) (w : World) (hr : Rd enc 3 w.heap.size w A L) (hl : L.length ≤ 100000000) :
    Calls Try.prog 69 #[.slice A L.length cap] w (Gives L.length (fun v => v) (fun w' v => Own enc 3 65 w.heap.size w' v L) w) := by
  obtain ⟨i0, hi, hz0, hz1, hz2⟩ := info_parts infoE
  have hne := fun W => Lib.run_eql_slice_nil (P := Try.prog) W 28 65 A L.length cap 0 0 Try.underlying28
  rcases A with _ | ad
  · have : L = [] := by
      rcases hr with h | ⟨b, o, h, _⟩
      · exact h
      · cases h
    subst this
    clear hl hr hi hz0 hz1 hz2 hne
    have hne : ∀ W : World, (binOp .eql 28 (.slice none 0 cap) (.slice none 0 0)).run Try.prog W = .ok (.bool true) W := fun W => Lib.run_eql_slice_nil (P := Try.prog) W 28 65 none 0 cap 0 0 Try.underlying28
    show Calls Try.prog 69 #[.slice none 0 cap] w _
    go_enter Try.func69, Try.ntmps69
    go_wp2_with fail
    go_ret
    exact ⟨none, 0, rfl, own_nil _ _ _, Below.refl _ _⟩
  · have hnews : ∀ j u, (L.flatMap enc)[j]? = some u → (w.alloc (.cells #[] 65)).cell? (ad.add j) = some u := by
      intro j u hu
      rcases hr with h | ⟨b, o, h, hb, hc⟩
      · subst h; simp at hu
      · obtain rfl : ad = ⟨b, o, none⟩ := by simpa using h
        have := rd_flat enc_len L o hc j u hu
        rw [Addr.add_mid, World.cell?_alloc_lt _ _ _ (World.block_lt_of_cell? w _ this)]
        exact this
    have HN := hide hnews; clear hnews hr
    go_enter Try.func69, Try.ntmps69
    go_wp2_with (at_builtin; refine wpList_append_own _ rfl (.tmp 5) (.tmp 6) 28 rfl w.heap.size 65 i0 _ 3 32 Try.underlying28 hi hz0 hz1 hz2 rfl (by decide) (.slice (some ⟨w.heap.size, 0, none⟩) 0 0) 0 [] rfl (own_empty (enc := enc) (Nat.le_refl _)) ad L.length cap (L.flatMap enc) rfl (flat_length enc_len L) HN.out (flat_one L) (by unfold maxLen; omega) (by omega) (by simp) ?_; intro v1 w1 ho1 hg1 hn1)
    simp only [Nat.zero_add, List.nil_append] at ho1
    obtain ⟨A', cap', rfl, _, _⟩ := Own.rd (L := L) enc_len ho1
    go_ret
    exact ⟨A', cap', rfl, ho1, ((Below.refl _ _).alloc (Nat.le_refl _) _).grown hg1 (by simp) (fun k hk => by simp [Value.ownBlock] at hk; omega)⟩
end Consumer
end Go.Proofs.Ytafefnpmgpmjpaa
