/- AddStock: more or less of one part; the program's function and the reference's. -/
import Derived.Test.YtlphegjhkchglaaDoorUses
import Derived.Test.YtlphegjhkchglaaDoorSetC
import Derived.Test.YtlphegjhkchglaaDoorApp
namespace Go.Proofs.YtlphegjhkchglaaDoor
open Go Go.RowKit
def bump (c : Part) (n : Int) : Part := ⟨c.name, c.have_ + n, c.least, c.lead, c.price⟩
def addL (L : List Part) (name : ByteArray) (n : Int) : List Part := match L.findIdx? (isN name) with
  | none => L
  | some k => match L[k]? with
    | none => L
    | some c => L.set k (bump c n)
def addB (L : List Part) (name : ByteArray) (n : Int) : Bool := partsB L && (L.any (isN name) && (inB n (-500) 500 && partsB (addL L name n)))
def stockL (L : List Part) (name : ByteArray) (n : Int) : List Part := if addB L name n then addL L name n else []
theorem addL_hit {L : List Part} {name : ByteArray} {n : Int} {k : Nat} {c : Part} (hk : idxF (isN name) L = k) (hc : L[k]? = some c) : addL L name n = L.set k (bump c n) := by
  unfold idxF at hk
  cases h : L.findIdx? (isN name) with
  | none => rw [h] at hk; simp at hk
  | some j =>
    rw [h] at hk
    have : j = k := by
      have h2 : (j : Int) = (k : Int) := by simpa using hk
      omega
    subst this
    simp [addL, h, hc]
theorem stockL_len (L : List Part) (name : ByteArray) (n : Int) : (stockL L name n).length ≤ 10 := by
  unfold stockL
  split
  · rename_i h
    simp only [addB, Bool.and_eq_true] at h
    exact riseB_len h.2.2.2
  · exact Nat.zero_le _
theorem bump_ok {L : List Part} (hok : ∀ c ∈ L, c.Ok) {k : Nat} {c : Part} (hc : L[k]? = some c) (n : Int) : ∀ d ∈ L.set k (bump c n), d.Ok := by
  intro d hd
  rcases List.mem_or_eq_of_mem_set hd with h | h
  · exact hok d h
  · subst h; exact hok c (List.mem_of_getElem? hc)
theorem AreParts_n {L : List Part} {b : Bool} {n : Nat} (h : partsB L = b) (hn : L.length = n) (A : Option Addr) (cap : Nat) (w : World) (hr : Rd Part.enc 5 w.heap.size w A L) (hok : ∀ c ∈ L, c.Ok) (hl : L.length ≤ maxLen) :
    Calls Tryd.prog 31 #[.slice A n cap] w fun e w' => e = .returned (.bool b) ∧ Below w.heap.size w w' := by subst hn; exact AreParts_is h A cap w hr hok hl
theorem l23Good_n {L : List Part} {b : Bool} {n : Nat} (h : partsB L = b) (hn : L.length = n) (A : Option Addr) (cap : Nat) (w : World) (hr : Rd Part.enc 5 w.heap.size w A L) (hok : ∀ c ∈ L, c.Ok) (hl : L.length ≤ maxLen) :
    Calls Tryd.prog 35 #[.slice A n cap] w fun e w' => e = .returned (.bool b) ∧ Below w.heap.size w w' := by subst hn; exact l23Good_is h A cap w hr hok hl
set_option maxRecDepth 100000 in
set_option maxHeartbeats 2000000 in
theorem AddStock_any (L : List Part) (name : ByteArray) (n : Int) (A : Option Addr) (cap : Nat) (w : World) (hr : Rd Part.enc 5 w.heap.size w A L) (hok : ∀ c ∈ L, c.Ok) (hl : L.length ≤ maxLen) :
    Calls Tryd.prog 11 #[.slice A L.length cap, .string name, .int .i64 n] w (Gives (stockL L name n).length (fun v => .tuple #[v, .bool (addB L name n)]) (fun w' v => Own Part.enc 5 27 w.heap.size w' v (stockL L name n)) w) := by
  have hno : addB L name n = false → stockL L name n = [] := fun h => by simp [stockL, h]
  cases hp : partsB L
  · have HB := hide (show addB L name n = false by simp [addB, hp])
    have HL := hide (hno HB.out)
    have HP := hide hp; clear hp hno
    go_enter Tryd.func11, Tryd.ntmps11
    go_wp2_with (first | (go_at_call 30; refine (partOf_any L _ _ name _ hr hl).mono ?_; rintro e w1 ⟨rfl, hb1⟩) | (go_at_call 31; refine (AreParts_is HP.out _ _ _ (hr.later hb1) hok hl).mono ?_; rintro e w2 ⟨rfl, hb2⟩))
    go_ret2
    rw [HL.out, HB.out]
    exact ⟨none, 0, rfl, own_nil _ _ _, below_step hb1 hb2 (Nat.le_refl _)⟩
  · have HP := hide hp; clear hp
    rcases idxF_cases (isN name) L with ⟨hi, hany⟩ | ⟨k, c, hi, hkl, hgk, hpk, hany, hno'⟩
    · have HI := hide hi; clear hi
      have HB := hide (show addB L name n = false by simp [addB, hany])
      have HL := hide (hno HB.out)
      clear hno hany
      go_enter Tryd.func11, Tryd.ntmps11
      go_wp2_with (first | (go_at_call 30; refine (partOf_is HI.out _ _ _ hr hl).mono ?_; rintro e w1 ⟨rfl, hb1⟩) | (go_at_call 31; refine (AreParts_is HP.out _ _ _ (hr.later hb1) hok hl).mono ?_; rintro e w2 ⟨rfl, hb2⟩))
      go_ret2
      rw [HL.out, HB.out]
      exact ⟨none, 0, rfl, own_nil _ _ _, below_step hb1 hb2 (Nat.le_refl _)⟩
    · have HI := hide hi
      have HA := hide (addL_hit (n := n) hi hgk)
      have hk0 : (0 : Int) ≤ (k : Int) := by omega
      clear hi hno' hpk
      cases hf : inB n (-500) 500
      · have HF := hide hf
        have HB := hide (show addB L name n = false by simp [addB, hf])
        have HL := hide (hno HB.out)
        clear hno hany hf hgk
        go_enter Tryd.func11, Tryd.ntmps11
        go_wp2_with (first | (go_at_call 30; refine (partOf_is HI.out _ _ _ hr hl).mono ?_; rintro e w1 ⟨rfl, hb1⟩) | (go_at_call 31; refine (AreParts_is HP.out _ _ _ (hr.later hb1) hok hl).mono ?_; rintro e w2 ⟨rfl, hb2⟩) | (go_at_call 32; refine (within_is HF.out _).mono ?_; rintro e w' ⟨rfl, rfl⟩))
        go_ret2
        rw [HL.out, HB.out]
        exact ⟨none, 0, rfl, own_nil _ _ _, below_step hb1 hb2 (Nat.le_refl _)⟩
      · have HF := hide hf
        have hlen := riseB_len HP.out
        obtain ⟨bd, _, _, _⟩ := parts_bd HP.out hgk
        have hn5 := inB_iff.1 hf
        have HBK := hide (bump_ok hok hgk n)
        have hsl : (L.set k (bump c n)).length = L.length := List.length_set
        have hki : (k : Int) < (L.length : Int) := by omega
        cases hq : partsB (L.set k (bump c n))
        all_goals
          have HQ := hide hq
          have HBV := hide ((show addB L name n = partsB (L.set k (bump c n)) by simp [addB, HP.out, hany, hf, HA.out]).trans hq)
          clear hq
          have HG := hide hgk
          go_enter Tryd.func11, Tryd.ntmps11
          go_wp2_with (first
            | (go_at_call 30; refine (partOf_is HI.out _ _ _ hr hl).mono ?_; rintro e w1 ⟨rfl, hb1⟩)
            | (go_at_call 33; refine (Part.Clone_any L _ _ _ ((hr.later hb1).later hb2) (by omega)).mono ?_; rintro e w3 ⟨A', c', rfl, ho, hb3⟩; obtain ⟨g, hA, hlg, hgw⟩ := Own.lo_le ho (by omega); subst hA; have x1 : w3.cell? ⟨g, k * 5 + 1, none⟩ = some (.int .i64 c.have_) := own_cell ho (flat_get Part.enc_len L k c HG.out 1 _ rfl); have fz := Own.frozen_ ho rfl (k * 5 + 1); have ho2 := hide (Own.set_cell (c' := bump c n) (u := .int .i64 (c.have_ + n)) Part.enc_len ho rfl HG.out (show 1 < 5 by omega) rfl); have hb4 : Below w2.heap.size w2 (w3.setCell ⟨g, k * 5 + 1, none⟩ (.int .i64 (c.have_ + n))) := hb3.setCell hlg _)
            | (go_at_call 31; refine (AreParts_n HQ.out hsl _ _ _ (Own.rd_of Part.enc_len ho2.out) HBK.out (by unfold maxLen; omega)).mono ?_; rintro e w5 ⟨rfl, hb5⟩)
            | (go_at_call 31; refine (AreParts_is HP.out _ _ _ (hr.later hb1) hok hl).mono ?_; rintro e w2 ⟨rfl, hb2⟩)
            | (go_at_call 32; refine (within_is HF.out _).mono ?_; rintro e w' ⟨rfl, rfl⟩))
          go_ret2
          have BE := below_step (below_step (below_step hb1 hb2 (Nat.le_refl _)) hb4 (Nat.le_refl _)) hb5 (Nat.le_refl _)
          first
            | (have HL : stockL L name n = [] := by simp [stockL, HBV.out]
               rw [HL, HBV.out]; exact ⟨none, 0, rfl, own_nil _ _ _, BE⟩)
            | (have HL : stockL L name n = L.set k (bump c n) := by simp [stockL, HBV.out, HA.out]
               rw [HL, HBV.out]; exact ⟨some ⟨g, 0, none⟩, c', by rw [hsl]; rfl, by rw [hsl]; exact Own.mono_ (Own.below ho2.out hb5) (Nat.le_trans hb1.size hb2.size), BE⟩)
end Go.Proofs.YtlphegjhkchglaaDoor
