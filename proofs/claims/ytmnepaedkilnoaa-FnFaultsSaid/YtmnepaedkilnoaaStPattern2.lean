/- Patterns are marked, their codes with them. Marks are at most 10^8. -/
import Derived.Test.YtmnepaedkilnoaaStPattern
import Derived.Test.YtmnepaedkilnoaaSetC
namespace Go.Proofs.Ytmnepaedkilnoaa
open Go Go.RowKit
set_option linter.unusedVariables false
namespace Pattern
theorem own_cells {TT lo n cap : Nat} {w : World} {g : Nat} {M : List Pattern} {k : Nat} {c : Pattern} (h : Own enc 3 TT lo w (.slice (some ⟨g, 0, none⟩) n cap) M) (hn : M.length = n) (hk : M[k]? = some c) : w.cell? ⟨g, k * 3, none⟩ = some (.int .i64 c.fault) ∧ w.cell? ⟨g, k * 3 + 1, none⟩ = some (.slice c.ca c.codes.length c.cc) ∧ w.cell? ⟨g, k * 3 + 2, none⟩ = some (.int .i64 c.within) := by
  subst hn; exact ⟨own_cell h (flat_get enc_len M k c hk 0 _ rfl), own_cell h (flat_get enc_len M k c hk 1 _ rfl), own_cell h (flat_get enc_len M k c hk 2 _ rfl)⟩
set_option maxRecDepth 100000 in
set_option maxHeartbeats 1000000 in
theorem markS_any (L : List Pattern) (A : Option Addr) (cap lo lo2 : Nat) (T T2 : TypeId) (k0 : Int) (w : World) (h0 : 0 ≤ k0) (h1 : k0 + 2 * L.length + sumC L ≤ 99999999) (hown : Own enc 3 T lo w (.slice A L.length cap) L) (hrows : OwnRows T2 lo2 w (L.map row)) (hap : ∀ g, A = some ⟨g, 0, none⟩ → g < lo2) (hlo : lo ≤ lo2) (hi : Nat) (hgh : ∀ g, A = some ⟨g, 0, none⟩ → g < hi) (hrh : ∀ c ∈ L, ∀ q, c.ca = some ⟨q, 0, none⟩ → q < hi) :
    Calls Try.prog 37 #[.slice A L.length cap, .int .i64 k0] w fun e w' => e = .returned (.int .i64 (k0 + 2 * L.length + sumC L)) ∧ Among lo hi w w' := by
  by_cases hL : L.length = 0
  · have : L = [] := List.eq_nil_of_length_eq_zero hL
    subst this
    go_enter Try.func37, Try.ntmps37
    go_wp2
    go_loop [5, 1] (fun i x => i = .int .i64 0 ∧ x = .int .i64 k0) (fun _ _ => 0)
    case atStart => exact ⟨rfl, rfl⟩
    case round =>
      obtain ⟨rfl, rfl⟩ := hrel
      go_wp2
      go_ret
      exact ⟨ret_int (by simp [sumC]), Among.refl⟩
  · obtain ⟨g, rfl, hlg, hgw0⟩ := own_form hown (by omega)
    have hg := hgh g rfl
    clear hgh
    have hg2 := hap g rfl
    have HBD := hide hrh
    clear hrh
    clear hap
    go_enter Try.func37, Try.ntmps37
    go_wp2_with fail
    go_loopw [5, 1] (fun i x wr => ∃ (k : Nat) (M : List Pattern) (y : Int), k ≤ L.length ∧ i = .int .i64 k ∧ x = .int .i64 y ∧ k0 ≤ y ∧ Hid (y + 2 * ((L.length : Int) - k) + sumC (L.drop k) = k0 + 2 * L.length + sumC L) ∧ M.length = L.length ∧ Hid (∀ j, k ≤ j → M[j]? = L[j]?) ∧ Own enc 3 T lo wr (.slice (some ⟨g, 0, none⟩) L.length cap) M ∧ OwnRows T2 lo2 wr ((L.drop k).map row) ∧ Among lo hi w wr) (fun i _ _ => L.length - (intOf i).toNat)
    case atStart => exact ⟨0, L, k0, Nat.zero_le _, rfl, rfl, by omega, hide (by simp), rfl, hide (fun _ _ => rfl), hown, by simpa using hrows, Among.refl⟩
    case round =>
      clear hown hrows
      obtain ⟨k, M, y, hk, rfl, rfl, hy0, hy, hml, hsame, ho, hro, ham⟩ := hrel
      by_cases hlt : k < L.length
      · have hgl := World.ownsRow.lt ho g (by simp [Value.ownBlock])
        have hget := List.getElem?_eq_getElem hlt
        have hD := List.drop_eq_getElem_cons hlt
        generalize L[k] = c at *
        have hmg : M[k]? = some c := (hsame.out k (Nat.le_refl _)).trans hget
        rw [hD, List.map_cons] at hro
        obtain ⟨gi, hgi, hoi⟩ := hro.1 c.row (List.mem_cons_self ..)
        have hne := hro.lt (List.mem_cons_self ..) hgi
        have hpw := List.pairwise_cons.1 hro.2
        have hgi' : c.ca = some ⟨gi, 0, none⟩ := hgi
        obtain ⟨c0, c1, c2⟩ := own_cells ho hml hmg
        rw [hgi'] at c1
        have hsum : y + 2 + 2 * ((L.length : Int) - (k + 1)) + c.codes.length + sumC (L.drop (k + 1)) = k0 + 2 * L.length + sumC L := by
          have := hy.out
          rw [hD, sumC_cons] at this
          omega
        have f0 := Own.frozen_ ho hml (k * 3)
        have f2 := Own.frozen_ ho hml (k * 3 + 2)
        have hgw : g < wr.heap.size := hgl.2
        have gr1 : wr.grownBy (wr.setCell ⟨g, k * 3, none⟩ (.int .i64 y)) (some g) := grown_set (World.grownBy.refl wr _)
        have x1 : (wr.setCell ⟨g, k * 3, none⟩ (.int .i64 y)).cell? ⟨g, k * 3 + 1, none⟩ = some (.slice (some ⟨gi, 0, none⟩) c.codes.length c.cc) := by rw [World.cell?_setCell_other _ _ _ _ (by simp)]; exact c1
        have x2 : (wr.setCell ⟨g, k * 3, none⟩ (.int .i64 y)).cell? ⟨g, k * 3 + 2, none⟩ = some (.int .i64 c.within) := by rw [World.cell?_setCell_other _ _ _ _ (by simp)]; exact c2
        have z2 : (wr.setCell ⟨g, k * 3, none⟩ (.int .i64 y)).frozen? ⟨g, k * 3 + 2, none⟩ = false := by rw [World.frozen?_setCell]; exact f2
        have hgne : (some g : Option Nat) ≠ (Value.slice (some ⟨gi, 0, none⟩) c.codes.length c.cc).ownBlock := by simp [Value.ownBlock]; omega
        have HOI := hide (show Own encI 1 T2 lo2 (wr.setCell ⟨g, k * 3, none⟩ (.int .i64 y)) (.slice (some ⟨gi, 0, none⟩) c.codes.length c.cc) c.codes from by
          have h5 : Own encI 1 T2 lo2 wr (.slice (some ⟨gi, 0, none⟩) c.codes.length c.cc) c.codes := by rw [← hgi']; exact hoi
          exact World.ownsRow.kept h5 gr1 (.inr (Ne.symm hgne)))
        have HG := hide hget; have HD := hide hD; have HMG := hide hmg; have HS := hide hsum
        have hrest := hide (show OwnRows T2 lo2 wr ((L.drop (k + 1)).map row) ∧ ∀ r ∈ (L.drop (k + 1)).map row, r.a ≠ some ⟨gi, 0, none⟩ ∧ r.a ≠ some ⟨g, 0, none⟩ from by
          refine ⟨⟨fun r hr => hro.1 r (List.mem_cons_of_mem _ hr), hpw.2⟩, fun r hr => ⟨fun e => hpw.1 r hr (hgi.trans e.symm), fun e => ?_⟩⟩
          have := hro.lt (List.mem_cons_of_mem _ hr) e
          omega)
        have hcl : y + 1 + c.codes.length ≤ 100000000 := by omega
        have hgih : gi < hi := HBD.out c (List.mem_of_getElem? hget) gi hgi
        clear hget hD hmg hsum hro hpw hoi hgi hgi' hy
        go_wp2_with (go_at_call 38; refine (markIntS_any c.codes (some ⟨gi, 0, none⟩) c.cc lo2 T2 (y + 1) _ (by omega) hcl HOI.out).mono ?_; rintro e w1 ⟨rfl, _, hg1⟩; have q2 := hg1.cell x2 hgne; have r2 : w1.frozen? ⟨g, k * 3 + 2, none⟩ = false := (hg1.frozen_far ⟨g, k * 3 + 2, none⟩ (by simpa [World.setCell] using hgw) hgne).trans z2)
        go_roundw
        case rel =>
          have o1 := Own.set_cell (j := 0) (c' := { c with fault := y }) (u := .int .i64 y) enc_len ho hml HMG.out (by omega) rfl
          rw [Nat.add_zero] at o1
          have o2 := World.ownsRow.kept o1 hg1 (.inr hgne)
          have hml2 : (M.set k { c with fault := y }).length = L.length := by rw [List.length_set]; exact hml
          have hget2 : (M.set k { c with fault := y })[k]? = some { c with fault := y } := by rw [List.getElem?_set_self (by omega)]
          have o3 := Own.set_cell (j := 2) (c' := { c with fault := y, within := y + 1 + (c.codes.length : Int) }) (u := .int .i64 (y + 1 + (c.codes.length : Int))) enc_len o2 hml2 hget2 (by omega) rfl
          have gr3 : w1.grownBy (w1.setCell ⟨g, k * 3 + 2, none⟩ (.int .i64 (y + 1 + (c.codes.length : Int)))) (some g) := grown_set (World.grownBy.refl w1 _)
          have am1 : Among lo hi wr w1 := (Among.grown gr1 hlg hg).trans (Among.grown (g := gi) hg1 (by omega) hgih)
          refine ⟨k + 1, (M.set k { c with fault := y }).set k { c with fault := y, within := y + 1 + (c.codes.length : Int) }, y + 1 + c.codes.length + 1, by omega, by go_num, rfl, by omega, hide ?_, by rw [List.length_set]; exact hml2, hide fun j hj => ?_, o3, ?_, ham.trans (am1.trans (Among.grown gr3 hlg hg))⟩
          · have := HS.out; omega
          · rw [List.getElem?_set_ne (by omega), List.getElem?_set_ne (by omega)]; exact hsame.out j (by omega)
          · have h6 : OwnRows T2 lo2 w1 ((L.drop (k + 1)).map row) := (hrest.out.1.kept gr1 (fun r hr => (hrest.out.2 r hr).2)).kept hg1 (fun r hr => (hrest.out.2 r hr).1)
            exact h6.kept gr3 (fun r hr => (hrest.out.2 r hr).2)
        case measure => simp [intOf]; omega
      · obtain rfl : k = L.length := by omega
        go_wp2_with fail
        go_ret
        refine ⟨ret_int ?_, ham⟩
        have := hy.out
        rw [List.drop_length] at this
        simp [sumC] at this ⊢
        omega
end Pattern
end Go.Proofs.Ytmnepaedkilnoaa
