/- The pattern with a fault in a record and patterns: both packages. Slices are as the reader gives them. -/
import Derived.Test.YtmnepaedkilnoaaFirst
import Derived.Test.YtmnepaedkilnoaaLibPattern
namespace Go.Proofs.Ytmnepaedkilnoaa
open Go Go.RowKit
set_option linter.unusedVariables false
def isF (fault : Int) (p : Pat) : Bool := p.fault == fault
def isFC (fault : Int) (c : Pattern) : Bool := c.fault == fault
def pickP (R : List Event) (P : List Pat) (fault : Int) : Option Pat := if recB R && patsB P then P.find? (isF fault) else none
theorem pick_cases (R : List Event) (L : List Pattern) (fault : Int) :
    (pickP R (Pattern.pats L) fault = none ∧ (recB R = false ∨ recB R = true ∧ patsB (Pattern.pats L) = false ∨ recB R = true ∧ patsB (Pattern.pats L) = true ∧ idxF (isFC fault) L = -1)) ∨
    ∃ (k : Nat) (c : Pattern), pickP R (Pattern.pats L) fault = some c.toPat ∧ recB R = true ∧ patsB (Pattern.pats L) = true ∧ idxF (isFC fault) L = k ∧ k < L.length ∧ L[k]? = some c ∧ patB c.toPat = true := by
  cases hr : recB R
  · left; exact ⟨by simp [pickP, hr], .inl rfl⟩
  cases hp : patsB (Pattern.pats L)
  · left; exact ⟨by simp [pickP, hp], .inr (.inl ⟨rfl, rfl⟩)⟩
  rcases idxF_cases (isFC fault) L with ⟨h1, h2⟩ | ⟨k, c, h1, hk, hg, hc, _, hno⟩
  · left
    refine ⟨?_, .inr (.inr ⟨rfl, rfl, h1⟩)⟩
    unfold pickP
    rw [hr, hp]
    simp only [Bool.and_self, if_true]
    rw [List.find?_eq_none]
    intro x hx
    obtain ⟨c, hc, rfl⟩ := List.mem_map.1 hx
    have := (List.any_eq_false.1 h2) c hc
    simpa [isFC, isF] using this
  · right
    refine ⟨k, c, ?_, rfl, rfl, h1, hk, hg, riseB_one hp k c.toPat (by simp [Pattern.pats, hg])⟩
    unfold pickP
    rw [hr, hp]
    simp only [Bool.and_self, if_true]
    obtain ⟨hk2, rfl⟩ := List.getElem?_eq_some_iff.1 hg
    rw [List.find?_eq_some_iff_getElem]
    refine ⟨hc, k, by simpa using hk2, by simp, fun j hj => ?_⟩
    have := hno j _ hj (List.getElem?_eq_getElem (by omega))
    simpa [isFC, isF] using this
theorem fault_pred (fault : Int) (L : List Pattern) (w : World) (B : Nat) (hc : w.cell? ⟨B, 0, none⟩ = some (.int .i64 fault)) : Pattern.Pred 85 #[.pointer (some ⟨B, 0, none⟩)] (isFC fault) L w := by
  refine ⟨entersF Try.func85 (by kernel_rfl) rfl, fun W c _ hb => ?_⟩
  have hc1 := below_cell hb hc
  have hc2 : (W.alloc (.cells #[.int .i64 c.fault, .slice c.ca c.codes.length c.cc, .int .i64 c.within] 62)).cell? ⟨B, 0, none⟩ = some (.int .i64 fault) := below_cell ((Below.refl _ _).alloc (Nat.le_refl _) _) hc1
  show Calls Try.prog 85 #[.agg #[.int .i64 c.fault, .slice c.ca c.codes.length c.cc, .int .i64 c.within], .pointer (some ⟨B, 0, none⟩)] W _
  go_enter Try.func85, Try.ntmps85
  go_wp2_with fail
  go_ret
  exact ⟨rfl, (Below.refl _ _).alloc (Nat.le_refl _) _⟩
theorem IndexFunc_isP {L : List Pattern} {fault z : Int} (h : idxF (isFC fault) L = z) (A : Option Addr) (cap B : Nat) (w : World) (hr : Rd Pattern.enc 3 w.heap.size w A L) (hl : L.length ≤ maxLen) (hc : w.cell? ⟨B, 0, none⟩ = some (.int .i64 fault)) :
    Calls Try.prog 84 #[.slice A L.length cap, .func (.func 85) #[] #[.pointer (some ⟨B, 0, none⟩)]] w fun e w' => e = .returned (.int .i64 z) ∧ Below w.heap.size w w' :=
  h ▸ Pattern.IndexFunc_any _ _ (isFC fault) L A cap w hr hl (fault_pred fault L w B hc)

set_option maxRecDepth 100000 in
set_option maxHeartbeats 2000000 in
theorem patternOf_no (L : List Pattern) (A0 A1 : Option Addr) (c0 c1 : Nat) (R : List Event) (fault : Int) (w : World) (r0 : Rd Event.enc 2 w.heap.size w A0 R) (ok0 : ∀ c ∈ R, c.Ok) (l0 : R.length ≤ maxLen) (r1 : Rd Pattern.enc 3 w.heap.size w A1 L) (ok1 : ∀ c ∈ L, c.Ok) (l1 : L.length ≤ maxLen) (d1 : Pattern.DeepP w.heap.size w L) (h : recB R = false ∨ recB R = true ∧ patsB (Pattern.pats L) = false ∨ recB R = true ∧ patsB (Pattern.pats L) = true ∧ idxF (isFC fault) L = -1) :
    Calls Try.prog 69 #[.slice A0 R.length c0, .slice A1 L.length c1, .int .i64 fault] w fun e w' => e = .returned (.tuple #[.agg #[.int .i64 0, .slice none 0 0, .int .i64 0], .bool false]) ∧ Below w.heap.size w w' := by
  have hba : Below w.heap.size w ((w.alloc (.cells #[.int .i64 fault] 3)).alloc (.cells #[.int .i64 0, .slice none 0 0, .int .i64 0] 62)) := ((Below.refl _ _).alloc (Nat.le_refl _) _).alloc (by simp) _
  have zb : ((w.alloc (.cells #[.int .i64 fault] 3)).alloc (.cells #[.int .i64 0, .slice none 0 0, .int .i64 0] 62)).cell? ⟨w.heap.size, 0, none⟩ = some (.int .i64 fault) := (CF.alloc (CF.new w #[.int .i64 fault] 3 w.heap.size 0 _ rfl rfl) _).1
  have z0 := CF.new (w.alloc (.cells #[.int .i64 fault] 3)) #[.int .i64 0, .slice none 0 0, .int .i64 0] 62 (w.heap.size + 1) 0 _ (by simp) rfl
  have z1 := CF.new (w.alloc (.cells #[.int .i64 fault] 3)) #[.int .i64 0, .slice none 0 0, .int .i64 0] 62 (w.heap.size + 1) 1 _ (by simp) rfl
  have z2 := CF.new (w.alloc (.cells #[.int .i64 fault] 3)) #[.int .i64 0, .slice none 0 0, .int .i64 0] 62 (w.heap.size + 1) 2 _ (by simp) rfl
  obtain ⟨z, hz⟩ : ∃ z, idxF (isFC fault) L = z := ⟨_, rfl⟩
  have HZ := hide hz
  rcases h with h | ⟨h, h2⟩ | ⟨h, h2, h3⟩
  · have H1 := hide h; clear h
    clear hz
    go_enter Try.func69, Try.ntmps69
    go_wp2_with (first | (go_at_call 84; refine (IndexFunc_isP HZ.out _ _ _ _ (r1.later hba) l1 zb).mono ?_; rintro e w1 ⟨rfl, hb1⟩; have B1 := below_step hba hb1 (Nat.le_refl _); have a0 := z0.below hb1; have pa0 := a0.1; have qa0 := a0.2; have a1 := z1.below hb1; have pa1 := a1.1; have qa1 := a1.2; have a2 := z2.below hb1; have pa2 := a2.1; have qa2 := a2.2) | (go_at_call 17; refine (IsRecordOf_is H1.out _ _ _ (r0.later B1) ok0 l0).mono ?_; rintro e w2 ⟨rfl, hb2⟩; have B2 := below_step B1 hb2 (Nat.le_refl _); have b0 := a0.below hb2; have pb0 := b0.1; have qb0 := b0.2; have b1 := a1.below hb2; have pb1 := b1.1; have qb1 := b1.2; have b2 := a2.below hb2; have pb2 := b2.1; have qb2 := b2.2) | (go_at_call 22; refine (ArePatterns_is rfl H2.out _ _ _ (r1.later B2) ok1 l1 (d1.later B2)).mono ?_; rintro e w3 ⟨rfl, hb3⟩; have B3 := below_step B2 hb3 (Nat.le_refl _); have c0 := b0.below hb3; have pc0 := c0.1; have qc0 := c0.2; have c1 := b1.below hb3; have pc1 := c1.1; have qc1 := c1.2; have c2 := b2.below hb3; have pc2 := c2.1; have qc2 := c2.2))
    refine bodyPost_ret (v := .tuple #[.agg #[.int .i64 0, .slice none 0 0, .int .i64 0], .bool false]) (by simp [results, Try.results69, go_sem, *]) rfl ⟨rfl, ?_⟩
    exact B2.trans (((((Among.refl (lo := w.heap.size) (hi := w.heap.size + 2) (w := w2)).set_ (g := w.heap.size + 1) 0 _ (by omega) (by omega)).set_ (g := w.heap.size + 1) 1 _ (by omega) (by omega)).set_ (g := w.heap.size + 1) 2 _ (by omega) (by omega)).below (by have := B2.size; omega))
  · have H1 := hide h; clear h
    have H2 := hide h2; clear h2
    clear hz
    go_enter Try.func69, Try.ntmps69
    go_wp2_with (first | (go_at_call 84; refine (IndexFunc_isP HZ.out _ _ _ _ (r1.later hba) l1 zb).mono ?_; rintro e w1 ⟨rfl, hb1⟩; have B1 := below_step hba hb1 (Nat.le_refl _); have a0 := z0.below hb1; have pa0 := a0.1; have qa0 := a0.2; have a1 := z1.below hb1; have pa1 := a1.1; have qa1 := a1.2; have a2 := z2.below hb1; have pa2 := a2.1; have qa2 := a2.2) | (go_at_call 17; refine (IsRecordOf_is H1.out _ _ _ (r0.later B1) ok0 l0).mono ?_; rintro e w2 ⟨rfl, hb2⟩; have B2 := below_step B1 hb2 (Nat.le_refl _); have b0 := a0.below hb2; have pb0 := b0.1; have qb0 := b0.2; have b1 := a1.below hb2; have pb1 := b1.1; have qb1 := b1.2; have b2 := a2.below hb2; have pb2 := b2.1; have qb2 := b2.2) | (go_at_call 22; refine (ArePatterns_is rfl H2.out _ _ _ (r1.later B2) ok1 l1 (d1.later B2)).mono ?_; rintro e w3 ⟨rfl, hb3⟩; have B3 := below_step B2 hb3 (Nat.le_refl _); have c0 := b0.below hb3; have pc0 := c0.1; have qc0 := c0.2; have c1 := b1.below hb3; have pc1 := c1.1; have qc1 := c1.2; have c2 := b2.below hb3; have pc2 := c2.1; have qc2 := c2.2))
    refine bodyPost_ret (v := .tuple #[.agg #[.int .i64 0, .slice none 0 0, .int .i64 0], .bool false]) (by simp [results, Try.results69, go_sem, *]) rfl ⟨rfl, ?_⟩
    exact B3.trans (((((Among.refl (lo := w.heap.size) (hi := w.heap.size + 2) (w := w3)).set_ (g := w.heap.size + 1) 0 _ (by omega) (by omega)).set_ (g := w.heap.size + 1) 1 _ (by omega) (by omega)).set_ (g := w.heap.size + 1) 2 _ (by omega) (by omega)).below (by have := B3.size; omega))
  · have H1 := hide h; clear h
    have H2 := hide h2; clear h2
    rw [hz] at h3; subst h3
    clear hz
    go_enter Try.func69, Try.ntmps69
    go_wp2_with (first | (go_at_call 84; refine (IndexFunc_isP HZ.out _ _ _ _ (r1.later hba) l1 zb).mono ?_; rintro e w1 ⟨rfl, hb1⟩; have B1 := below_step hba hb1 (Nat.le_refl _); have a0 := z0.below hb1; have pa0 := a0.1; have qa0 := a0.2; have a1 := z1.below hb1; have pa1 := a1.1; have qa1 := a1.2; have a2 := z2.below hb1; have pa2 := a2.1; have qa2 := a2.2) | (go_at_call 17; refine (IsRecordOf_is H1.out _ _ _ (r0.later B1) ok0 l0).mono ?_; rintro e w2 ⟨rfl, hb2⟩; have B2 := below_step B1 hb2 (Nat.le_refl _); have b0 := a0.below hb2; have pb0 := b0.1; have qb0 := b0.2; have b1 := a1.below hb2; have pb1 := b1.1; have qb1 := b1.2; have b2 := a2.below hb2; have pb2 := b2.1; have qb2 := b2.2) | (go_at_call 22; refine (ArePatterns_is rfl H2.out _ _ _ (r1.later B2) ok1 l1 (d1.later B2)).mono ?_; rintro e w3 ⟨rfl, hb3⟩; have B3 := below_step B2 hb3 (Nat.le_refl _); have c0 := b0.below hb3; have pc0 := c0.1; have qc0 := c0.2; have c1 := b1.below hb3; have pc1 := c1.1; have qc1 := c1.2; have c2 := b2.below hb3; have pc2 := c2.1; have qc2 := c2.2))
    refine bodyPost_ret (v := .tuple #[.agg #[.int .i64 0, .slice none 0 0, .int .i64 0], .bool false]) (by simp [results, Try.results69, go_sem, *]) rfl ⟨rfl, ?_⟩
    exact B3.trans (((((Among.refl (lo := w.heap.size) (hi := w.heap.size + 2) (w := w3)).set_ (g := w.heap.size + 1) 0 _ (by omega) (by omega)).set_ (g := w.heap.size + 1) 1 _ (by omega) (by omega)).set_ (g := w.heap.size + 1) 2 _ (by omega) (by omega)).below (by have := B3.size; omega))
set_option maxRecDepth 100000 in
set_option maxHeartbeats 2000000 in
theorem patternOf_yes (L : List Pattern) (A0 A1 : Option Addr) (c0 c1 : Nat) (R : List Event) (fault : Int) (w : World) (r0 : Rd Event.enc 2 w.heap.size w A0 R) (ok0 : ∀ c ∈ R, c.Ok) (l0 : R.length ≤ maxLen) (r1 : Rd Pattern.enc 3 w.heap.size w A1 L) (ok1 : ∀ c ∈ L, c.Ok) (l1 : L.length ≤ maxLen) (d1 : Pattern.DeepP w.heap.size w L) (hR : recB R = true) (hP : patsB (Pattern.pats L) = true) (k : Nat) (c : Pattern) (hi : idxF (isFC fault) L = k) (hk : k < L.length) (hg : L[k]? = some c) :
    Calls Try.prog 69 #[.slice A0 R.length c0, .slice A1 L.length c1, .int .i64 fault] w fun e w' => e = .returned (.tuple #[.agg #[.int .i64 c.fault, .slice c.ca c.codes.length c.cc, .int .i64 c.within], .bool true]) ∧ Below w.heap.size w w' := by
  have hba : Below w.heap.size w ((w.alloc (.cells #[.int .i64 fault] 3)).alloc (.cells #[.int .i64 0, .slice none 0 0, .int .i64 0] 62)) := ((Below.refl _ _).alloc (Nat.le_refl _) _).alloc (by simp) _
  have zb : ((w.alloc (.cells #[.int .i64 fault] 3)).alloc (.cells #[.int .i64 0, .slice none 0 0, .int .i64 0] 62)).cell? ⟨w.heap.size, 0, none⟩ = some (.int .i64 fault) := (CF.alloc (CF.new w #[.int .i64 fault] 3 w.heap.size 0 _ rfl rfl) _).1
  have z0 := CF.new (w.alloc (.cells #[.int .i64 fault] 3)) #[.int .i64 0, .slice none 0 0, .int .i64 0] 62 (w.heap.size + 1) 0 _ (by simp) rfl
  have z1 := CF.new (w.alloc (.cells #[.int .i64 fault] 3)) #[.int .i64 0, .slice none 0 0, .int .i64 0] 62 (w.heap.size + 1) 1 _ (by simp) rfl
  have z2 := CF.new (w.alloc (.cells #[.int .i64 fault] 3)) #[.int .i64 0, .slice none 0 0, .int .i64 0] 62 (w.heap.size + 1) 2 _ (by simp) rfl
  have H1 := hide hR; have H2 := hide hP; have HZ := hide hi; clear hR hP hi
  obtain ⟨b, o, rfl, hb, hc⟩ := Pattern.rd_at r1 (by intro h; subst h; simp at hk)
  obtain ⟨x0, x1, x2⟩ := hc k c hg
  have hki : (k : Int) < (L.length : Int) := by omega
  clear hc
  go_enter Try.func69, Try.ntmps69
  go_wp2_with (first | (go_at_call 84; refine (IndexFunc_isP HZ.out _ _ _ _ (r1.later hba) l1 zb).mono ?_; rintro e w1 ⟨rfl, hb1⟩; have B1 := below_step hba hb1 (Nat.le_refl _); have a0 := z0.below hb1; have pa0 := a0.1; have qa0 := a0.2; have a1 := z1.below hb1; have pa1 := a1.1; have qa1 := a1.2; have a2 := z2.below hb1; have pa2 := a2.1; have qa2 := a2.2) | (go_at_call 17; refine (IsRecordOf_is H1.out _ _ _ (r0.later B1) ok0 l0).mono ?_; rintro e w2 ⟨rfl, hb2⟩; have B2 := below_step B1 hb2 (Nat.le_refl _); have b0 := a0.below hb2; have pb0 := b0.1; have qb0 := b0.2; have b1 := a1.below hb2; have pb1 := b1.1; have qb1 := b1.2; have b2 := a2.below hb2; have pb2 := b2.1; have qb2 := b2.2) | (go_at_call 22; refine (ArePatterns_is rfl H2.out _ _ _ (r1.later B2) ok1 l1 (d1.later B2)).mono ?_; rintro e w3 ⟨rfl, hb3⟩; have B3 := below_step B2 hb3 (Nat.le_refl _); have c0 := b0.below hb3; have pc0 := c0.1; have qc0 := c0.2; have c1 := b1.below hb3; have pc1 := c1.1; have qc1 := c1.2; have c2 := b2.below hb3; have pc2 := c2.1; have qc2 := c2.2; have y0 := below_cell B3 x0; have y1 := below_cell B3 x1; have y2 := below_cell B3 x2))
  refine bodyPost_ret (v := .tuple #[.agg #[.int .i64 c.fault, .slice c.ca c.codes.length c.cc, .int .i64 c.within], .bool true]) (by simp [results, Try.results69, go_sem, *]) rfl ⟨rfl, ?_⟩
  exact B3.trans (((((Among.refl (lo := w.heap.size) (hi := w.heap.size + 2) (w := w3)).set_ (g := w.heap.size + 1) 0 _ (by omega) (by omega)).set_ (g := w.heap.size + 1) 1 _ (by omega) (by omega)).set_ (g := w.heap.size + 1) 2 _ (by omega) (by omega)).below (by have := B3.size; omega))
set_option maxHeartbeats 400000 in
theorem l20Find_any (L : List Pattern) (A : Option Addr) (cap : Nat) (fault : Int) (w : World) (hr : Rd Pattern.enc 3 w.heap.size w A L) (hl : L.length ≤ maxLen) :
    Calls Try.prog 68 #[.slice A L.length cap, .int .i64 fault] w fun e w' => e = .returned (.int .i64 (idxF (isFC fault) L)) ∧ w = w' := by
  unfold maxLen at hl
  go_enter Try.func68, Try.ntmps68
  go_wp2_with fail
  go_loop [5] (fun i => ∃ k : Nat, k ≤ L.length ∧ i = .int .i64 k ∧ Hid (∀ (j : Nat) (d : Pattern), j < k → L[j]? = some d → isFC fault d = false)) (fun i => L.length - (intOf i).toNat)
  case atStart => exact ⟨0, Nat.zero_le _, rfl, hide (fun j d hj => absurd hj (Nat.not_lt_zero j))⟩
  case round =>
    obtain ⟨k, hk, rfl, hn⟩ := hrel
    by_cases hlt : k < L.length
    · obtain ⟨b, o, rfl, hb, hc⟩ := Pattern.rd_at hr (by intro h; subst h; simp at hlt)
      have hget := List.getElem?_eq_getElem hlt
      obtain ⟨c0, c1, c2⟩ := hc k _ hget
      generalize L[k] = c at *
      have HG := hide hget; clear hget hc hr
      cases hw : isFC fault c
      · have hb0 : (c.fault == fault) = false := hw
        have HW := hide hw; clear hw
        go_wp2_with fail
        go_round
        case rel => exact ⟨k + 1, by omega, by go_num, hide (no_step hn.out HG.out HW.out)⟩
        case measure => simp [intOf]; omega
      · have hb0 : (c.fault == fault) = true := hw
        have HW := hide hw; clear hw
        go_wp2_with fail
        go_ret
        exact ⟨ret_int (idxF_hit HG.out HW.out hn.out).symm, rfl⟩
    · obtain rfl : k = L.length := by omega
      go_wp2_with fail
      go_ret
      exact ⟨ret_int (idxF_none hn.out).symm, rfl⟩
theorem l20Find_is {L : List Pattern} {fault z : Int} (h : idxF (isFC fault) L = z) (A : Option Addr) (cap : Nat) (w : World) (hr : Rd Pattern.enc 3 w.heap.size w A L) (hl : L.length ≤ maxLen) :
    Calls Try.prog 68 #[.slice A L.length cap, .int .i64 fault] w fun e w' => e = .returned (.int .i64 z) ∧ w = w' := h ▸ l20Find_any L A cap fault w hr hl
set_option maxHeartbeats 400000 in
theorem l20Asked_no (L : List Pattern) (A0 A1 : Option Addr) (c0 c1 : Nat) (R : List Event) (fault : Int) (w : World) (r0 : Rd Event.enc 2 w.heap.size w A0 R) (ok0 : ∀ c ∈ R, c.Ok) (l0 : R.length ≤ maxLen) (r1 : Rd Pattern.enc 3 w.heap.size w A1 L) (ok1 : ∀ c ∈ L, c.Ok) (l1 : L.length ≤ maxLen) (d1 : Pattern.DeepP w.heap.size w L) (h : recB R = false ∨ recB R = true ∧ patsB (Pattern.pats L) = false ∨ recB R = true ∧ patsB (Pattern.pats L) = true ∧ idxF (isFC fault) L = -1) :
    Calls Try.prog 67 #[.slice A0 R.length c0, .slice A1 L.length c1, .int .i64 fault] w fun e w' => e = .returned (.bool false) ∧ Below w.heap.size w w' := by
  rcases h with h | ⟨h, h2⟩ | ⟨h, h2, h3⟩
  · have H1 := hide h; clear h
    go_enter Try.func67, Try.ntmps67
    go_wp2_with (first | (go_at_call 54; refine (l20Record_is H1.out _ _ _ r0 ok0 l0).mono ?_; rintro e w2 ⟨rfl, hb2⟩) | (go_at_call 59; refine (l20Patterns_is rfl H2.out _ _ _ (r1.later hb2) ok1 l1 (d1.later hb2)).mono ?_; rintro e w3 ⟨rfl, hb3⟩; have B3 := below_step hb2 hb3 (Nat.le_refl _)) | (go_at_call 68; refine (l20Find_is HZ.out _ _ _ (r1.later B3) l1).mono ?_; rintro e w4 ⟨rfl, rfl⟩))
    go_ret
    exact ⟨rfl, hb2⟩
  · have H1 := hide h; clear h
    have H2 := hide h2; clear h2
    go_enter Try.func67, Try.ntmps67
    go_wp2_with (first | (go_at_call 54; refine (l20Record_is H1.out _ _ _ r0 ok0 l0).mono ?_; rintro e w2 ⟨rfl, hb2⟩) | (go_at_call 59; refine (l20Patterns_is rfl H2.out _ _ _ (r1.later hb2) ok1 l1 (d1.later hb2)).mono ?_; rintro e w3 ⟨rfl, hb3⟩; have B3 := below_step hb2 hb3 (Nat.le_refl _)) | (go_at_call 68; refine (l20Find_is HZ.out _ _ _ (r1.later B3) l1).mono ?_; rintro e w4 ⟨rfl, rfl⟩))
    go_ret
    exact ⟨rfl, B3⟩
  · have H1 := hide h; clear h
    have H2 := hide h2; clear h2
    have HZ := hide h3; clear h3
    go_enter Try.func67, Try.ntmps67
    go_wp2_with (first | (go_at_call 54; refine (l20Record_is H1.out _ _ _ r0 ok0 l0).mono ?_; rintro e w2 ⟨rfl, hb2⟩) | (go_at_call 59; refine (l20Patterns_is rfl H2.out _ _ _ (r1.later hb2) ok1 l1 (d1.later hb2)).mono ?_; rintro e w3 ⟨rfl, hb3⟩; have B3 := below_step hb2 hb3 (Nat.le_refl _)) | (go_at_call 68; refine (l20Find_is HZ.out _ _ _ (r1.later B3) l1).mono ?_; rintro e w4 ⟨rfl, rfl⟩))
    go_ret
    exact ⟨rfl, B3⟩
set_option maxHeartbeats 400000 in
theorem l20Asked_yes (L : List Pattern) (A0 A1 : Option Addr) (c0 c1 : Nat) (R : List Event) (fault : Int) (w : World) (r0 : Rd Event.enc 2 w.heap.size w A0 R) (ok0 : ∀ c ∈ R, c.Ok) (l0 : R.length ≤ maxLen) (r1 : Rd Pattern.enc 3 w.heap.size w A1 L) (ok1 : ∀ c ∈ L, c.Ok) (l1 : L.length ≤ maxLen) (d1 : Pattern.DeepP w.heap.size w L) (hR : recB R = true) (hP : patsB (Pattern.pats L) = true) (k : Nat) (hi : idxF (isFC fault) L = k) :
    Calls Try.prog 67 #[.slice A0 R.length c0, .slice A1 L.length c1, .int .i64 fault] w fun e w' => e = .returned (.bool true) ∧ Below w.heap.size w w' := by
  have H1 := hide hR; have H2 := hide hP; have HZ := hide hi; clear hR hP hi
  go_enter Try.func67, Try.ntmps67
  go_wp2_with (first | (go_at_call 54; refine (l20Record_is H1.out _ _ _ r0 ok0 l0).mono ?_; rintro e w2 ⟨rfl, hb2⟩) | (go_at_call 59; refine (l20Patterns_is rfl H2.out _ _ _ (r1.later hb2) ok1 l1 (d1.later hb2)).mono ?_; rintro e w3 ⟨rfl, hb3⟩; have B3 := below_step hb2 hb3 (Nat.le_refl _)) | (go_at_call 68; refine (l20Find_is HZ.out _ _ _ (r1.later B3) l1).mono ?_; rintro e w4 ⟨rfl, rfl⟩))
  go_ret
  exact ⟨rfl, B3⟩
end Go.Proofs.Ytmnepaedkilnoaa
