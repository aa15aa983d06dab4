/- The library's generic functions at slices of Use: each walked once. Slices have at most 10^8 elements. -/
import Derived.Test.YtlphegjhkchglaaStUse
import Derived.Lib.Overlaps
import Derived.Laws.IdiomCopy
import Derived.Lib.AppendZeros
import Derived.Laws.Externs
import Derived.Deep.RegionLaw
import Derived.Lib.LazyBuf
namespace Go.Proofs.Ytlphegjhkchglaa
open Go Go.RowKit
namespace Use
def valC (c : Use) : Value := .agg #[.string c.name, .int .i64 c.day, .int .i64 c.count]
/- what a predicate's function value is to do: in every later world it answers p, and makes memory alone -/
def Pred (g : Nat) (caps : Array Value) (p : Use → Bool) (L : List Use) (w : World) : Prop := EntersF Try.prog g ∧ ∀ (W : World) (c : Use), c ∈ L → Below w.heap.size w W → Calls Try.prog g (#[.agg #[.string c.name, .int .i64 c.day, .int .i64 c.count]] ++ caps) W fun e w' => e = .returned (.bool (p c)) ∧ Below W.heap.size W w'
theorem Pred.is {g : Nat} {caps : Array Value} {p : Use → Bool} {L : List Use} {w W : World} {c : Use} {b : Bool} (h : Pred g caps p L w) (hm : c ∈ L) (hb : Below w.heap.size w W) (hp : p c = b) : Calls Try.prog g (#[.agg #[.string c.name, .int .i64 c.day, .int .i64 c.count]] ++ caps) W fun e w' => e = .returned (.bool b) ∧ Below W.heap.size W w' := hp ▸ h.2 W c hm hb
theorem Pred.later {g : Nat} {caps : Array Value} {p : Use → Bool} {L : List Use} {w w1 : World} (h : Pred g caps p L w) (hb : Below w.heap.size w w1) : Pred g caps p L w1 := ⟨h.1, fun W c hm hW => h.2 W c hm (below_step hb hW (Nat.le_refl _))⟩
set_option maxHeartbeats 400000 in
theorem IndexFunc_any (g : Nat) (caps : Array Value) (p : Use → Bool) (L : List Use) (A : Option Addr) (cap : Nat) (w : World) (hr : Rd enc 3 w.heap.size w A L) (hl : L.length ≤ maxLen) (hp : Pred g caps p L w) :
    Calls Try.prog 78 #[.slice A L.length cap, .func (.func g) #[] caps] w fun e w' => e = .returned (.int .i64 (idxF p L)) ∧ Below w.heap.size w w' := by
  unfold maxLen at hl
  go_enter Try.func78, Try.ntmps78
  go_wp2_with fail
  go_loopw [8] (fun i wr => ∃ k : Nat, k ≤ L.length ∧ i = .int .i64 k ∧ Hid (∀ (j : Nat) (d : Use), j < k → L[j]? = some d → p d = false) ∧ Below w.heap.size w wr) (fun i _ => L.length - (intOf i).toNat)
  case atStart => exact ⟨0, Nat.zero_le _, rfl, hide (fun j d hj => absurd hj (Nat.not_lt_zero j)), Below.refl _ _⟩
  case round =>
    obtain ⟨k, hk, rfl, hn, hbel⟩ := hrel
    by_cases hlt : k < L.length
    · have eg : ∀ (args : Array Value) (w : World), (callFunc g args).run Try.prog w = .ok (.enter g args) w := hp.1
      obtain ⟨b, o, rfl, hb, hc⟩ := rd_at hr (by intro h; subst h; simp at hlt)
      have hget := List.getElem?_eq_getElem hlt
      obtain ⟨x0, x1, x2⟩ := hc k _ hget
      have hmem := hide (List.getElem_mem hlt)
      generalize L[k] = c at *
      have HG := hide hget; clear hget hc hr
      replace x0 := below_cell hbel x0
      replace x1 := below_cell hbel x1
      replace x2 := below_cell hbel x2
      cases hpc : p c
      · have H := Lib.hid (Pred.is hp hmem.out hbel hpc)
        go_wp2_with (with_reducible show Calls _ _ _ _ _; refine (H.out).mono ?_; rintro e w1 ⟨rfl, hb1⟩)
        go_roundw
        case rel => exact ⟨k + 1, by omega, by go_num, hide (no_step hn.out HG.out hpc), below_step hbel hb1 (Nat.le_refl _)⟩
        case measure => simp [intOf]; omega
      · have H := Lib.hid (Pred.is hp hmem.out hbel hpc)
        go_wp2_with (with_reducible show Calls _ _ _ _ _; refine (H.out).mono ?_; rintro e w1 ⟨rfl, hb1⟩)
        go_ret
        exact ⟨ret_int (idxF_hit HG.out hpc hn.out).symm, below_step hbel hb1 (Nat.le_refl _)⟩
    · obtain rfl : k = L.length := by omega
      go_wp2_with fail
      go_ret
      exact ⟨ret_int (idxF_none hn.out).symm, hbel⟩
theorem ContainsFunc_any (g : Nat) (caps : Array Value) (p : Use → Bool) (L : List Use) (A : Option Addr) (cap : Nat) (w : World) (hr : Rd enc 3 w.heap.size w A L) (hl : L.length ≤ maxLen) (hp : Pred g caps p L w) :
    Calls Try.prog 59 #[.slice A L.length cap, .func (.func g) #[] caps] w fun e w' => e = .returned (.bool (L.any p)) ∧ Below w.heap.size w w' := by
  rcases idxF_cases p L with ⟨h1, h2⟩ | ⟨k, c, h1, hk, _, _, h2, _⟩
  · have H1 := hide h1; clear h1
    go_enter Try.func59, Try.ntmps59
    go_wp2_with (go_at_call 78; refine (IndexFunc_any g caps p L _ _ _ hr hl hp).mono ?_; rw [H1.out]; rintro e w1 ⟨rfl, hb1⟩)
    go_ret
    exact ⟨ret_bool h2.symm, hb1⟩
  · have H1 := hide h1; clear h1
    have hk0 : (0 : Int) ≤ (k : Int) := by omega
    go_enter Try.func59, Try.ntmps59
    go_wp2_with (go_at_call 78; refine (IndexFunc_any g caps p L _ _ _ hr hl hp).mono ?_; rw [H1.out]; rintro e w1 ⟨rfl, hb1⟩)
    go_ret
    exact ⟨ret_bool h2.symm, hb1⟩
theorem infoE : (Try.prog.info? 60).map (fun i => (i.zero, i.size, i.bytes)) = some (some (.agg #[.string ⟨#[]⟩, .int .i64 0, .int .i64 0]), 3, 32) := by kernel_rfl
theorem enc_one (c : Use) : ∀ u ∈ c.enc, u.oneCell' = true := by intro u hu; simp only [enc, List.mem_cons, List.not_mem_nil, or_false] at hu; rcases hu with rfl | rfl | rfl <;> rfl
theorem flat_one (L : List Use) : ∀ u ∈ L.flatMap enc, u.oneCell' = true := by intro u hu; obtain ⟨c, _, hc⟩ := List.mem_flatMap.1 hu; exact enc_one c u hc
end Use
end Go.Proofs.Ytlphegjhkchglaa
