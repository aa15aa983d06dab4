/- slices.DeleteFunc at slices of Shift: walked once. Slices have at most 10^8 elements. -/
import Derived.Test.YtfaicjlpncidgaaLibShift
import Derived.Test.YtfaicjlpncidgaaDel
namespace Go.Proofs.Ytfaicjlpncidgaa
open Go Go.RowKit
namespace Shift
theorem own_cells {TT lo n cap : Nat} {w : World} {g : Nat} {M : List Shift} {k : Nat} {c : Shift} (h : Own enc 4 TT lo w (.slice (some ⟨g, 0, none⟩) n cap) M) (hn : M.length = n) (hk : M[k]? = some c) : w.cell? ⟨g, k * 4, none⟩ = some (.int .i64 c.day) ∧ w.cell? ⟨g, k * 4 + 1, none⟩ = some (.int .i64 c.part) ∧ w.cell? ⟨g, k * 4 + 2, none⟩ = some (.int .i64 c.who) ∧ w.cell? ⟨g, k * 4 + 3, none⟩ = some (.int .i64 c.duty) := by
  subst hn; exact ⟨own_cell h (flat_get enc_len M k c hk 0 _ rfl), own_cell h (flat_get enc_len M k c hk 1 _ rfl), own_cell h (flat_get enc_len M k c hk 2 _ rfl), own_cell h (flat_get enc_len M k c hk 3 _ rfl)⟩
/- what a predicate's function value is to do while memory from lo on turns -/
def PredB (g : Nat) (caps : Array Value) (p : Shift → Bool) (L : List Shift) (lo : Nat) (w : World) : Prop := EntersF Try.prog g ∧ ∀ (W : World) (c : Shift), c ∈ L → Below lo w W → Calls Try.prog g (#[.agg #[.int .i64 c.day, .int .i64 c.part, .int .i64 c.who, .int .i64 c.duty]] ++ caps) W fun e w' => e = .returned (.bool (p c)) ∧ Below W.heap.size W w'
theorem PredB.pred {g : Nat} {caps : Array Value} {p : Shift → Bool} {L : List Shift} {lo : Nat} {w : World} (h : PredB g caps p L lo w) (hlo : lo ≤ w.heap.size) : Pred g caps p L w := ⟨h.1, fun W c hm hW => h.2 W c hm (hW.mono hlo)⟩
theorem PredB.is {g : Nat} {caps : Array Value} {p : Shift → Bool} {L : List Shift} {lo : Nat} {w W : World} {c : Shift} {b : Bool} (h : PredB g caps p L lo w) (hm : c ∈ L) (hb : Below lo w W) (hp : p c = b) : Calls Try.prog g (#[.agg #[.int .i64 c.day, .int .i64 c.part, .int .i64 c.who, .int .i64 c.duty]] ++ caps) W fun e w' => e = .returned (.bool b) ∧ Below W.heap.size W w' := hp ▸ h.2 W c hm hb
set_option maxRecDepth 100000 in
set_option maxHeartbeats 1000000 in
theorem DeleteFunc_any (g : Nat) (caps : Array Value) (p : Shift → Bool) (L : List Shift) (A : Option Addr) (cap lo : Nat) (w : World) (hown : Own enc 4 66 lo w (.slice A L.length cap) L) (hlo : lo ≤ w.heap.size) (hl : L.length ≤ 100000000) (hp : PredB g caps p L lo w) :
    Calls Try.prog 82 #[.slice A L.length cap, .func (.func g) #[] caps] w fun e w' => e = .returned (.slice A (L.filter fun x => !p x).length cap) ∧ Own enc 4 66 lo w' (.slice A (L.filter fun x => !p x).length cap) (L.filter fun x => !p x) ∧ Below lo w w' := by
  rcases idxF_cases p L with ⟨h1, h2⟩ | ⟨k, c, h1, hk, hgk, hpk, h2, hno⟩
  · have H1 := hide h1; clear h1
    have HF := hide (show (L.filter fun x => !p x) = L by rw [List.filter_eq_self]; intro x hx; simpa using (List.any_eq_false.1 h2) x hx)
    go_enter Try.func82, Try.ntmps82
    go_wp2_with (go_at_call 104; refine (IndexFunc_any g caps p L _ _ _ (Own.rd_of enc_len hown) (by unfold maxLen; omega) (hp.pred hlo)).mono ?_; rw [H1.out]; rintro e w1 ⟨rfl, hb1⟩)
    go_ret
    rw [HF.out]
    exact ⟨rfl, Own.below hown hb1, hb1.mono hlo⟩
  · have H1 := hide h1; clear h1
    obtain ⟨gb, rfl, hlg, hgw⟩ := Own.lo_le hown (by omega)
    have hk1 : ((k : Int) == -1) = false := beq_eq_false_iff_ne.2 (by omega)
    have hS := hide (Struck.start hgk hpk hno)
    clear hgk hpk hno h2
    go_enter Try.func82, Try.ntmps82
    go_wp2_with (go_at_call 104; refine (IndexFunc_any g caps p L _ _ _ (Own.rd_of enc_len hown) (by unfold maxLen; omega) (hp.pred hlo)).mono ?_; rw [H1.out]; rintro e w1 ⟨rfl, hb1⟩)
    go_loopw [5, 6] (fun x y wr => ∃ (i j : Nat) (M : List Shift), x = .int .i64 i ∧ y = .int .i64 j ∧ j ≤ L.length ∧ Hid (Struck p L M i j) ∧ Own enc 4 66 lo wr (.slice (some ⟨gb, 0, none⟩) L.length cap) M ∧ Below lo w wr) (fun _ y _ => L.length - (intOf y).toNat)
    case atStart => exact ⟨k, k + 1, L, rfl, by go_num, by omega, hS, Own.below hown hb1, hb1.mono hlo⟩
    case round =>
      clear hown hb1
      obtain ⟨i, j, M, rfl, rfl, hj, hst, hown, hbel⟩ := hrel
      have hij := hst.out.lt
      have hml := hst.out.len
      by_cases hlt : j < L.length
      · have eg : ∀ (args : Array Value) (w : World), (callFunc g args).run Try.prog w = .ok (.enter g args) w := hp.1
        have hget := List.getElem?_eq_getElem hlt
        have hmem := hide (List.getElem_mem hlt)
        generalize L[j] = c at *
        have HG := hide hget; clear hget
        obtain ⟨x0, x1, x2, x3⟩ := own_cells hown hml (hst.out.at_ HG.out)
        have hba : Below wr.heap.size wr (wr.alloc (.cells #[.int .i64 c.day, .int .i64 c.part, .int .i64 c.who, .int .i64 c.duty] 66)) := (Below.refl _ _).alloc (Nat.le_refl _) _
        have hji : (j : Int) < (L.length : Int) := by omega
        have hii : (i : Int) < (L.length : Int) := by omega
        cases hpc : p c
        · have H := Lib.hid (PredB.is hp hmem.out (hbel.trans (hba.mono (Nat.le_trans hlo hbel.size))) hpc)
          have hrow := hide hown
          go_wp2_with (first | (with_reducible show Calls _ _ _ _ _; refine (H.out).mono ?_; rintro e w2 ⟨rfl, hb2⟩; have y0 := below_cell hb2 (cell_new wr #[.int .i64 c.day, .int .i64 c.part, .int .i64 c.who, .int .i64 c.duty] 66 _ 0 _ rfl rfl); have y1 := below_cell hb2 (cell_new wr #[.int .i64 c.day, .int .i64 c.part, .int .i64 c.who, .int .i64 c.duty] 66 _ 1 _ rfl rfl); have y2 := below_cell hb2 (cell_new wr #[.int .i64 c.day, .int .i64 c.part, .int .i64 c.who, .int .i64 c.duty] 66 _ 2 _ rfl rfl); have y3 := below_cell hb2 (cell_new wr #[.int .i64 c.day, .int .i64 c.part, .int .i64 c.who, .int .i64 c.duty] 66 _ 3 _ rfl rfl)) | (with_reducible show wpList _ _ _ (⟨none, _, _, _, _, _⟩ :: _) _ _; refine wpList_store_mid rfl 66 (.tmp 33) (.tmp 32) rfl gb (i * 4) #[.int .i64 c.day, .int .i64 c.part, .int .i64 c.who, .int .i64 c.duty] rfl rfl (Own.there_ (Own.below (Own.below hrow.out hba) hb2) hml (by simp; omega)) (by kernel_rfl) (by simp [Value.oneCell']) ?_))
          go_roundw
          case rel => exact ⟨i + 1, j + 1, M.set i c, by go_num, by go_num, by omega, hide (hst.out.keep HG.out hpc), Own.set_ enc_len (Own.below (Own.below hrow.out hba) hb2) hml (by omega) c, below_setCells gb hlg _ _ _ (below_step (below_step hbel hba hlo) hb2 hlo)⟩
          case measure => simp [intOf]; omega
        · have H := Lib.hid (PredB.is hp hmem.out (hbel.trans (hba.mono (Nat.le_trans hlo hbel.size))) hpc)
          go_wp2_with (with_reducible show Calls _ _ _ _ _; refine (H.out).mono ?_; rintro e w2 ⟨rfl, hb2⟩; have y0 := below_cell hb2 (cell_new wr #[.int .i64 c.day, .int .i64 c.part, .int .i64 c.who, .int .i64 c.duty] 66 _ 0 _ rfl rfl); have y1 := below_cell hb2 (cell_new wr #[.int .i64 c.day, .int .i64 c.part, .int .i64 c.who, .int .i64 c.duty] 66 _ 1 _ rfl rfl); have y2 := below_cell hb2 (cell_new wr #[.int .i64 c.day, .int .i64 c.part, .int .i64 c.who, .int .i64 c.duty] 66 _ 2 _ rfl rfl); have y3 := below_cell hb2 (cell_new wr #[.int .i64 c.day, .int .i64 c.part, .int .i64 c.who, .int .i64 c.duty] 66 _ 3 _ rfl rfl))
          go_roundw
          case rel => exact ⟨i, j + 1, M, rfl, by go_num, by omega, hide (hst.out.skip HG.out hpc), Own.below (Own.below hown hba) hb2, below_step (below_step hbel hba hlo) hb2 hlo⟩
          case measure => simp [intOf]; omega
      · have hjl : j = L.length := by omega
        subst hjl
        have hin : (i : Int) ≤ (L.length : Int) := by omega
        obtain ⟨zs, hzs⟩ : ∃ zs : List Value, zs = (Builtin.zeroCells (Value.agg #[.int .i64 0, .int .i64 0, .int .i64 0, .int .i64 0]).cells (L.length - i)).toList := ⟨_, rfl⟩
        have hcl : ∀ ty, (Builtin.clear_ #[38] ty #[.slice (some ⟨gb, i * 4, none⟩) (L.length - i) (cap - i)]).run Try.prog wr = .ok (.tuple #[]) (wr.setCells gb (i * 4) zs) := fun ty => by
          rw [hzs]
          obtain ⟨i0, hi0, hz0, _, _⟩ := info_parts infoE
          exact run_clear_rows wr 38 66 ty (.agg #[.int .i64 0, .int .i64 0, .int .i64 0, .int .i64 0]) Try.underlying38 (fun w => by simp [zeroValue, typeInfo, hi0, hz0]) gb (i * 4) (L.length - i) (cap - i) (by omega) (Own.there_ hown hml (by simp [Value.cells]; omega)) (zero_one (by intro j hj; simp [Value.cells] at hj; have h4 : j = 0 ∨ j = 1 ∨ j = 2 ∨ j = 3 := (by omega); rcases h4 with rfl | rfl | rfl | rfl <;> rfl))
        clear hzs
        have hroom := Own.room hown hml
        have hic : i ≤ cap := by omega
        have hci : ¬ cap = i := by omega
        go_wp2_with fail
        go_ret
        have hlen : i = (L.filter fun x => !p x).length := by rw [hst.out.i_eq, keep_end (Nat.le_refl _)]
        have hlow : M.take i = L.filter fun x => !p x := by rw [hst.out.low, keep_end (Nat.le_refl _)]
        have hc := Own.clear_ enc_len hown hml (k := i) (by omega) zs
        rw [hlow, hlen] at hc
        rw [← hlen]
        exact ⟨rfl, by rw [hlen]; exact hc, below_setCells gb hlg zs _ _ hbel⟩
end Shift
end Go.Proofs.Ytfaicjlpncidgaa
