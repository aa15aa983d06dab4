/- InspectAgain: one condition gets a day and a grade; the program's function and the reference's. -/
import Derived.Test.YtknondhdhjegbaaPermits2
import Derived.Test.YtknondhdhjegbaaLibCondition
import Derived.Test.YtknondhdhjegbaaDlCondition
import Derived.Test.YtknondhdhjegbaaSetC
import Derived.Test.YtknondhdhjegbaaApp
import Derived.Test.YtknondhdhjegbaaGrid
namespace Go.Proofs.Ytknondhdhjegbaa
open Go Go.RowKit
set_option linter.unusedVariables false
def isNo (n : Int) (c : Condition) : Bool := c.number == n
def againC (c : Condition) (d g : Int) : Condition := ⟨c.number, c.what, c.every, d, g⟩
def agL (L : List Condition) (n d g : Int) : List Condition := match L.findIdx? (isNo n) with
  | none => []
  | some k => match L[k]? with
    | none => []
    | some c => L.set k (againC c d g)
def agA (L : List Condition) (n d g : Int) : Bool := match L.findIdx? (isNo n) with
  | none => false
  | some k => match L[k]? with
    | none => false
    | some c => decide (c.last ≤ d) && goodC (L.set k (againC c d g))
def agB (L : List Condition) (n d g : Int) : Bool := goodC L && agA L n d g
def agV (L : List Condition) (n d g : Int) : List Condition := if agB L n d g then agL L n d g else []
theorem ag_hit {L : List Condition} {n d g : Int} {k : Nat} {c : Condition} (hk : idxF (isNo n) L = k) (hc : L[k]? = some c) : agL L n d g = L.set k (againC c d g) ∧ agA L n d g = (decide (c.last ≤ d) && goodC (L.set k (againC c d g))) := by
  unfold idxF at hk
  cases h : L.findIdx? (isNo n) with
  | none => rw [h] at hk; simp at hk
  | some j =>
    rw [h] at hk
    have : j = k := by
      have h2 : (j : Int) = (k : Int) := by simpa using hk
      omega
    subst this
    simp [agL, agA, h, hc]
theorem ag_none {L : List Condition} {n d g : Int} (hk : idxF (isNo n) L = -1) : agA L n d g = false := by
  unfold idxF at hk
  cases h : L.findIdx? (isNo n) with
  | none => simp [agA, h]
  | some j => rw [h] at hk; have h2 : ((j : Nat) : Int) = -1 := hk
              omega
theorem agV_len (L : List Condition) (n d g : Int) : (agV L n d g).length ≤ 12 := by
  unfold agV
  split
  · rename_i h
    simp only [agB, Bool.and_eq_true] at h
    have hl := goodC_len h.1
    unfold agL
    split
    · simp
    · split
      · simp
      · rw [List.length_set]; exact hl
  · simp
theorem again_ok {L : List Condition} (hok : ∀ c ∈ L, c.Ok) {k : Nat} {c : Condition} (hc : L[k]? = some c) (d g : Int) : ∀ x ∈ L.set k (againC c d g), x.Ok := by
  intro x hx
  rcases List.mem_or_eq_of_mem_set hx with h | h
  · exact hok x h
  · subst h; exact hok c (List.mem_of_getElem? hc)
theorem good_next {L : List Condition} (h : goodC L = true) {k : Nat} {c d : Condition} (hc : L[k]? = some c) (hd : L[k + 1]? = some d) : c.number < d.number := by
  simp only [goodC, Bool.and_eq_true] at h
  have := allAt_at h.1 (List.getElem?_eq_some_iff.1 hd).1
  simp only [okAt, hd, Nat.add_sub_cancel, hc, Bool.and_eq_true, Bool.or_eq_true, decide_eq_true_eq] at this
  omega
theorem good_lt {L : List Condition} (h : goodC L = true) : ∀ (m k : Nat) (c d : Condition), L[k]? = some c → L[k + m + 1]? = some d → c.number < d.number
  | 0, k, c, d, hc, hd => good_next h hc hd
  | m + 1, k, c, d, hc, hd => by
    have hlt := (List.getElem?_eq_some_iff.1 hd).1
    have hg := List.getElem?_eq_getElem (show k + m + 1 < L.length by omega)
    have h1 := good_lt h m k c _ hc hg
    have h2 := good_next h hg (by rw [show k + m + 1 + 1 = k + (m + 1) + 1 by omega]; exact hd)
    omega
theorem good_ne {L : List Condition} (h : goodC L = true) {j k : Nat} {c d : Condition} (hjk : j < k) (hc : L[j]? = some c) (hd : L[k]? = some d) : c.number < d.number :=
  good_lt h (k - j - 1) j c d hc (by rw [show j + (k - j - 1) + 1 = k by omega]; exact hd)
theorem AreConditions_n {L : List Condition} {b : Bool} {n : Nat} (h : goodC L = b) (hn : L.length = n) (A : Option Addr) (cap : Nat) (w : World) (hr : Rd Condition.enc 5 w.heap.size w A L) (hok : ∀ c ∈ L, c.Ok) (hl : L.length ≤ maxLen) :
    Calls Try.prog 19 #[.slice A n cap] w fun e w' => e = .returned (.bool b) ∧ Below w.heap.size w w' := by subst hn; subst h; exact AreConditions_any L A cap w hr hok hl
theorem l24Good_n {L : List Condition} {b : Bool} {n : Nat} (h : goodC L = b) (hn : L.length = n) (A : Option Addr) (cap : Nat) (w : World) (hr : Rd Condition.enc 5 w.heap.size w A L) (hok : ∀ c ∈ L, c.Ok) (hl : L.length ≤ maxLen) :
    Calls Try.prog 52 #[.slice A n cap] w fun e w' => e = .returned (.bool b) ∧ Below w.heap.size w w' := by subst hn; subst h; exact l24Good_any L A cap w hr hok hl
theorem no_pred (n : Int) (L : List Condition) (w : World) (B : Nat) (hc : w.cell? ⟨B, 0, none⟩ = some (.int .i64 n)) : Condition.Pred 61 #[.pointer (some ⟨B, 0, none⟩)] (isNo n) L w := by
  refine ⟨entersF Try.func61 (by kernel_rfl) rfl, fun W c _ hb => ?_⟩
  have hc1 := below_cell hb hc
  have hc2 : (W.alloc (.cells #[.int .i64 c.number, .string c.what, .int .i64 c.every, .int .i64 c.last, .int .i64 c.grade] 26)).cell? ⟨B, 0, none⟩ = some (.int .i64 n) := below_cell ((Below.refl _ _).alloc (Nat.le_refl _) _) hc1
  show Calls Try.prog 61 #[.agg #[.int .i64 c.number, .string c.what, .int .i64 c.every, .int .i64 c.last, .int .i64 c.grade], .pointer (some ⟨B, 0, none⟩)] W _
  go_enter Try.func61, Try.ntmps61
  go_wp2_with fail
  go_ret
  exact ⟨rfl, (Below.refl _ _).alloc (Nat.le_refl _) _⟩
theorem IndexFunc_isN {L : List Condition} {n z : Int} (h : idxF (isNo n) L = z) (A : Option Addr) (cap B : Nat) (w : World) (hr : Rd Condition.enc 5 w.heap.size w A L) (hl : L.length ≤ maxLen) (hc : w.cell? ⟨B, 0, none⟩ = some (.int .i64 n)) :
    Calls Try.prog 60 #[.slice A L.length cap, .func (.func 61) #[] #[.pointer (some ⟨B, 0, none⟩)]] w fun e w' => e = .returned (.int .i64 z) ∧ Below w.heap.size w w' :=
  h ▸ Condition.IndexFunc_any _ _ (isNo n) L A cap w hr hl (no_pred n L w B hc)
set_option maxRecDepth 100000 in
set_option maxHeartbeats 2000000 in
theorem InspectAgain_any (L : List Condition) (n d g : Int) (A : Option Addr) (cap : Nat) (w : World) (hr : Rd Condition.enc 5 w.heap.size w A L) (hok : ∀ c ∈ L, c.Ok) (hl : L.length ≤ maxLen) :
    Calls Try.prog 30 #[.slice A L.length cap, .int .i64 n, .int .i64 d, .int .i64 g] w (Gives (agV L n d g).length (fun v => .tuple #[v, .bool (agB L n d g)]) (fun w' v => Own Condition.enc 5 26 w.heap.size w' v (agV L n d g)) w) := by
  have hba : Below w.heap.size w (w.alloc (.cells #[.int .i64 n] 3)) := (Below.refl _ _).alloc (Nat.le_refl _) _
  have zb : (w.alloc (.cells #[.int .i64 n] 3)).cell? ⟨w.heap.size, 0, none⟩ = some (.int .i64 n) := (CF.new w #[.int .i64 n] 3 w.heap.size 0 _ rfl rfl).1
  have hno : agB L n d g = false → agV L n d g = [] := fun h => by simp [agV, h]
  cases hp : goodC L
  · have HB := hide (show agB L n d g = false by simp [agB, hp])
    have HL := hide (hno HB.out)
    have HP := hide hp; clear hp hno
    obtain ⟨z, hz⟩ : ∃ z, idxF (isNo n) L = z := ⟨_, rfl⟩
    have HZ := hide hz; clear hz
    go_enter Try.func30, Try.ntmps30
    go_wp2_with (first | (go_at_call 60; refine (IndexFunc_isN HZ.out _ _ _ _ (hr.later hba) hl zb).mono ?_; rintro e w1 ⟨rfl, hb1⟩) | (go_at_call 19; refine (AreConditions_n HP.out rfl _ _ _ ((hr.later hba).later hb1) hok hl).mono ?_; rintro e w2 ⟨rfl, hb2⟩))
    go_ret2
    rw [HL.out, HB.out]
    exact ⟨none, 0, rfl, own_nil _ _ _, below_step (below_step hba hb1 (Nat.le_refl _)) hb2 (Nat.le_refl _)⟩
  · have HP := hide hp; clear hp
    rcases idxF_cases (isNo n) L with ⟨hi, hany⟩ | ⟨k, c, hi, hkl, hgk, hpk, hany, hno'⟩
    · have HB := hide (show agB L n d g = false by simp [agB, ag_none hi])
      have HI := hide hi; clear hi
      have HL := hide (hno HB.out)
      clear hno hany
      go_enter Try.func30, Try.ntmps30
      go_wp2_with (first | (go_at_call 60; refine (IndexFunc_isN HI.out _ _ _ _ (hr.later hba) hl zb).mono ?_; rintro e w1 ⟨rfl, hb1⟩) | (go_at_call 19; refine (AreConditions_n HP.out rfl _ _ _ ((hr.later hba).later hb1) hok hl).mono ?_; rintro e w2 ⟨rfl, hb2⟩))
      go_ret2
      rw [HL.out, HB.out]
      exact ⟨none, 0, rfl, own_nil _ _ _, below_step (below_step hba hb1 (Nat.le_refl _)) hb2 (Nat.le_refl _)⟩
    · have HI := hide hi
      obtain ⟨ha1, ha2⟩ := ag_hit (d := d) (g := g) hi hgk
      have hk0 : (0 : Int) ≤ (k : Int) := by omega
      have hki : (k : Int) < (L.length : Int) := by omega
      obtain ⟨b, o, rfl, hb, hc⟩ := Condition.rd_at hr (by intro h; subst h; simp at hkl)
      obtain ⟨_, _, _, x3, _⟩ := hc k c hgk
      have hlen := goodC_len HP.out
      clear hi hno' hpk hany hc
      by_cases hd : c.last ≤ d
      · have hsl : (L.set k (againC c d g)).length = L.length := List.length_set
        have HOK := hide (again_ok hok hgk d g)
        have hnd : ¬ d < c.last := by omega
        cases hq : goodC (L.set k (againC c d g))
        all_goals
          have HQ := hide hq
          have HBV := hide ((show agB L n d g = goodC (L.set k (againC c d g)) by simp [agB, HP.out, ha2, hd]).trans hq)
          have HA1 := hide ha1
          have HG := hide hgk
          clear hq
          go_enter Try.func30, Try.ntmps30
          go_wp2_with (first
            | (go_at_call 60; refine (IndexFunc_isN HI.out _ _ _ _ (hr.later hba) hl zb).mono ?_; rintro e w1 ⟨rfl, hb1⟩)
            | (go_at_call 62; refine (Condition.Clone_any L _ _ _ (((hr.later hba).later hb1).later hb2) (by omega)).mono ?_; rintro e w3 ⟨A', c', rfl, ho, hb3⟩; obtain ⟨gb, hA, hlg, hgw⟩ := Own.lo_le ho (by omega); subst hA; obtain ⟨_, _, _, u3, u4⟩ := Condition.own_cells ho rfl HG.out; have fz3 := Own.frozen_ ho rfl (k * 5 + 3); have fz4 := Own.frozen_ ho rfl (k * 5 + 4); have ho2 := Own.set_cell (c' := ⟨c.number, c.what, c.every, d, c.grade⟩) (u := .int .i64 d) Condition.enc_len ho rfl HG.out (show 3 < 5 by omega) rfl; have ho3 := hide (Own.set_cell (c' := againC c d g) (u := .int .i64 g) Condition.enc_len ho2 List.length_set (List.getElem?_set_self hkl) (show 4 < 5 by omega) rfl); clear ho2; have hb4 : Below w2.heap.size w2 ((w3.setCell ⟨gb, k * 5 + 3, none⟩ (.int .i64 d)).setCell ⟨gb, k * 5 + 4, none⟩ (.int .i64 g)) := (hb3.setCell hlg _).setCell hlg _)
            | (go_at_call 19; refine (AreConditions_n HQ.out hsl _ _ _ (Own.rd_of Condition.enc_len (by have h := ho3.out; rw [List.set_set] at h; exact h)) HOK.out (by unfold maxLen; omega)).mono ?_; rintro e w5 ⟨rfl, hb5⟩)
            | (go_at_call 19; refine (AreConditions_n HP.out rfl _ _ _ ((hr.later hba).later hb1) hok hl).mono ?_; rintro e w2 ⟨rfl, hb2⟩; have x3' := below_cell hb2 (below_cell hb1 (below_cell hba x3))))
          go_ret2
          have B0 := below_step (below_step hba hb1 (Nat.le_refl _)) hb2 (Nat.le_refl _)
          have BE := below_step (below_step B0 hb4 (Nat.le_refl _)) hb5 (Nat.le_refl _)
          first
            | (have HL : agV L n d g = [] := by simp [agV, HBV.out]
               rw [HL, HBV.out]; exact ⟨none, 0, rfl, own_nil _ _ _, BE⟩)
            | (have HL : agV L n d g = L.set k (againC c d g) := by simp [agV, HBV.out, HA1.out]
               rw [HL, HBV.out]; exact ⟨some ⟨gb, 0, none⟩, c', by rw [hsl]; rfl, by rw [hsl]; exact Own.mono_ (Own.below (by have h := ho3.out; rw [List.set_set] at h; exact h) hb5) B0.size, BE⟩)
      · have hnd : d < c.last := by omega
        have HB := hide (show agB L n d g = false by simp [agB, ha2, hd])
        have HL := hide (hno HB.out)
        clear hno ha1 ha2 hgk
        go_enter Try.func30, Try.ntmps30
        go_wp2_with (first | (go_at_call 60; refine (IndexFunc_isN HI.out _ _ _ _ (hr.later hba) hl zb).mono ?_; rintro e w1 ⟨rfl, hb1⟩) | (go_at_call 19; refine (AreConditions_n HP.out rfl _ _ _ ((hr.later hba).later hb1) hok hl).mono ?_; rintro e w2 ⟨rfl, hb2⟩; have x3' := below_cell hb2 (below_cell hb1 (below_cell hba x3))))
        go_ret2
        rw [HL.out, HB.out]
        exact ⟨none, 0, rfl, own_nil _ _ _, below_step (below_step hba hb1 (Nat.le_refl _)) hb2 (Nat.le_refl _)⟩
/- no condition ahead of place k is the one that is asked -/
def Ahead (L : List Condition) (n d : Int) (k : Nat) : Prop := ∀ (j : Nat) (c : Condition), j < k → L[j]? = some c → ¬ (c.number = n ∧ c.last ≤ d)
theorem Ahead.next {L : List Condition} {n d : Int} {k : Nat} {c : Condition} (h : Ahead L n d k) (hc : L[k]? = some c) (hn : ¬ (c.number = n ∧ c.last ≤ d)) : Ahead L n d (k + 1) := fun j x hj hx => by
  rcases Nat.lt_or_eq_of_le (Nat.lt_succ_iff.1 hj) with h1 | h1
  · exact h j x h1 hx
  · subst h1; rw [hc] at hx; injection hx with hx; rw [← hx]; exact hn
theorem ahead_end {L : List Condition} {n d : Int} (g : Int) (h : Ahead L n d L.length) : agA L n d g = false := by
  rcases idxF_cases (isNo n) L with ⟨hi, _⟩ | ⟨k, c, hi, hkl, hgk, hpk, _, _⟩
  · exact ag_none hi
  · rw [(ag_hit hi hgk).2]
    have h1 : c.number = n := by simpa [isNo] using hpk
    have := h k c hkl hgk
    have : ¬ c.last ≤ d := fun h2 => this ⟨h1, h2⟩
    simp [this]
theorem ahead_hit {L : List Condition} {n d : Int} {k : Nat} {c : Condition} (hg : goodC L = true) (hc : L[k]? = some c) (hn : c.number = n) : idxF (isNo n) L = k := by
  refine idxF_hit hc (by simpa [isNo] using hn) (fun j x hj hx => ?_)
  have := good_ne hg hj hx hc
  simp [isNo]; omega
theorem rd_src {α : Type} {enc : α → List Value} {sz B : Nat} {w : World} {A : Option Addr} {L : List α} (he : ∀ c, (enc c).length = sz) (hr : Rd enc sz B w A L) : ∀ ad, A = some ad → ∀ j u, (L.flatMap enc)[j]? = some u → w.cell? (ad.add j) = some u := by
  intro ad had j u hu
  have hL : L ≠ [] := by intro h; subst h; simp at hu
  obtain ⟨b, o, hA, _, hc⟩ := hr.at_ hL
  rw [hA] at had; injection had with had; subst had
  rw [Addr.add_mid]; exact rd_flat he L o hc j u hu
theorem rd_none {α : Type} {enc : α → List Value} {sz B : Nat} {w : World} {A : Option Addr} {L : List α} (hr : Rd enc sz B w A L) (h : A = none) : L.length = 0 := by
  rcases hr with h1 | ⟨b, o, hA, _⟩
  · rw [h1]; rfl
  · rw [h] at hA; cases hA
theorem own_at {α : Type} {enc : α → List Value} {sz T lo n cap : Nat} {w : World} {A : Option Addr} {L : List α} (h : Own enc sz T lo w (.slice A n cap) L) (hn : L.length = n) (h0 : 0 < n) : ∃ p, A = some ⟨p, 0, none⟩ ∧ lo ≤ p ∧ p < w.heap.size := by
  subst hn; exact own_form h h0
set_option maxRecDepth 100000 in
set_option maxHeartbeats 4000000 in
theorem InspectAgain_spec (L : List Condition) (n d g : Int) (A : Option Addr) (cap : Nat) (w : World) (hr : Rd Condition.enc 5 w.heap.size w A L) (hok : ∀ c ∈ L, c.Ok) (hl : L.length ≤ maxLen) (hnil : A = none → cap = 0) :
    Calls Try.prog 29 #[.slice A L.length cap, .int .i64 n, .int .i64 d, .int .i64 g] w (Gives (agV L n d g).length (fun v => .tuple #[v, .bool (agB L n d g)]) (fun w' v => Own Condition.enc 5 26 w.heap.size w' v (agV L n d g)) w) := by
  have hno : agB L n d g = false → agV L n d g = [] := fun h => by simp [agV, h]
  cases hp : goodC L
  · have HB := hide (show agB L n d g = false by simp [agB, hp])
    have HL := hide (hno HB.out)
    have HP := hide hp; clear hp hno
    go_enter Try.func29, Try.ntmps29
    go_wp2_with (go_at_call 52; refine (l24Good_n HP.out rfl _ _ _ hr hok hl).mono ?_; rintro e w1 ⟨rfl, hb1⟩)
    go_ret2
    rw [HL.out, HB.out]
    exact ⟨_, _, rfl, own_empty hb1.size, below_step hb1 ((Below.refl _ _).alloc (Nat.le_refl _) _) (Nat.le_refl _)⟩
  · have HP := hide hp; clear hp
    have hlen := goodC_len HP.out
    have B1s : ∀ w1, Below w.heap.size w w1 → Below w.heap.size w (w1.alloc (.cells #[] 26)) := fun w1 h => below_step h ((Below.refl _ _).alloc (Nat.le_refl _) _) (Nat.le_refl _)
    have HBS := hide B1s; clear B1s
    go_enter Try.func29, Try.ntmps29
    go_wp2_with (first
      | (go_at_call 52; refine (l24Good_n HP.out rfl _ _ _ hr hok hl).mono ?_; rintro e w1 ⟨rfl, hb1⟩)
      | (at_builtin; refine wpList_app rfl (.tmp 17) (.tmp 18) 32 26 rfl Try.underlying32 Condition.infoE rfl (by omega) (by omega) Condition.enc_len Condition.enc_one w.heap.size _ 0 [] L A L.length cap 0 L.length rfl (by omega) rfl rfl rfl (rd_src Condition.enc_len (hr.later (HBS.out _ hb1))) (fun h => ⟨rd_none hr h, hnil h⟩) (own_empty hb1.size) (by have := (HBS.out _ hb1).size; exact this) (by omega) ?_; intro A2 c2 w2 ho2 hb2 hg2))
    have BW2 : Below w.heap.size w w2 := (HBS.out _ hb1).trans hb2
    rw [List.nil_append] at ho2
    go_loopw [11] (fun i wr => ∃ (k : Nat) (M : List Condition), k ≤ L.length ∧ i = .int .i64 k ∧ M.length = L.length ∧ Own Condition.enc 5 26 w.heap.size wr (.slice A2 L.length c2) M ∧ Hid (M = L ∧ Ahead L n d k ∨ agA L n d g = false ∧ (∀ (j : Nat) (c : Condition), k ≤ j → L[j]? = some c → M[j]? = some c ∧ ¬ c.number = n)) ∧ Below w.heap.size w wr) (fun i _ => L.length - (intOf i).toNat)
    case atStart => exact ⟨0, L, Nat.zero_le _, rfl, rfl, ho2, hide (.inl ⟨rfl, fun j c hj => absurd hj (Nat.not_lt_zero j)⟩), BW2⟩
    case round =>
      clear ho2 hb2 hg2 BW2
      obtain ⟨k, M, hk, rfl, hML, hown, hst, BW⟩ := hrel
      by_cases hlt : k < L.length
      · obtain ⟨gb, hA2, hlg, hgw⟩ := own_at hown hML (by omega)
        subst hA2
        have hgk := List.getElem?_eq_getElem hlt
        have HOKc := hide (hok _ (List.getElem_mem hlt))
        generalize L[k] = c at *
        have hki : (k : Int) < (L.length : Int) := by omega
        have hMk : M[k]? = some c := by
          rcases hst.out with ⟨h1, _⟩ | ⟨_, h2⟩
          · rw [h1]; exact hgk
          · exact (h2 k c (Nat.le_refl _) hgk).1
        obtain ⟨u0, u1, u2, u3, u4⟩ := Condition.own_cells hown hML hMk
        have hbB : Below wr.heap.size wr (wr.alloc (.cells #[.int .i64 c.number, .string c.what, .int .i64 c.every, .int .i64 c.last, .int .i64 c.grade] 26)) := (Below.refl _ _).alloc (Nat.le_refl _) _
        by_cases hn : c.number = n
        · have hb0 : (c.number != n) = false := by simpa using hn
          rcases hst.out with ⟨h1, h2⟩ | ⟨_, h2⟩
          · subst h1
            by_cases hd : d < c.last
            · have HN := hide (h2.next hgk (fun h => by omega))
              clear hn
              go_wp2_with fail
              go_roundw
              case rel => exact ⟨k + 1, _, by omega, by go_num, rfl, Own.below hown hbB, hide (.inl ⟨rfl, HN.out⟩), below_step BW hbB (Nat.le_refl _)⟩
              case measure => simp [intOf] <;> omega
            · have hnd : ¬ d < c.last := hd
              have hix := ahead_hit (d := d) HP.out hgk hn
              obtain ⟨ha1, ha2⟩ := ag_hit (d := d) (g := g) hix hgk
              have hsl : (M.set k (againC c d g)).length = M.length := List.length_set
              have HOK := hide (again_ok hok hgk d g)
              have HLAT := hide (fun (j : Nat) (x : Condition) (hj : k + 1 ≤ j) (hx : M[j]? = some x) => show (M.set k (againC c d g))[j]? = some x ∧ ¬ x.number = n from ⟨by rw [List.getElem?_set_ne (by omega)]; exact hx, by have := good_ne HP.out (show k < j by omega) hgk hx; omega⟩)
              have HA := hide (show agB M n d g = goodC (M.set k (againC c d g)) by simp [agB, HP.out, ha2]; intro; omega)
              have HA2 := hide (show agA M n d g = goodC (M.set k (againC c d g)) by rw [ha2]; simp; intro; omega)
              have HA1 := hide ha1
              clear hix ha1 ha2 h2 hst hn
              have f0 := Own.frozen_ hown hML (k * 5); have f1 := Own.frozen_ hown hML (k * 5 + 1); have f2 := Own.frozen_ hown hML (k * 5 + 2); have f3 := Own.frozen_ hown hML (k * 5 + 3); have f4 := Own.frozen_ hown hML (k * 5 + 4)
              have hset : Own Condition.enc 5 26 w.heap.size (((((wr.setCell ⟨gb, k * 5, none⟩ (.int .i64 c.number)).setCell ⟨gb, k * 5 + 1, none⟩ (.string c.what)).setCell ⟨gb, k * 5 + 2, none⟩ (.int .i64 c.every)).setCell ⟨gb, k * 5 + 3, none⟩ (.int .i64 d)).setCell ⟨gb, k * 5 + 4, none⟩ (.int .i64 g)) (.slice (some ⟨gb, 0, none⟩) M.length c2) (M.set k (againC c d g)) := Own.set_ Condition.enc_len hown hML (k := k) hlt (againC c d g)
              have hbS : Below w.heap.size w (((((wr.setCell ⟨gb, k * 5, none⟩ (.int .i64 c.number)).setCell ⟨gb, k * 5 + 1, none⟩ (.string c.what)).setCell ⟨gb, k * 5 + 2, none⟩ (.int .i64 c.every)).setCell ⟨gb, k * 5 + 3, none⟩ (.int .i64 d)).setCell ⟨gb, k * 5 + 4, none⟩ (.int .i64 g)) := ((((BW.setCell hlg _).setCell hlg _).setCell hlg _).setCell hlg _).setCell hlg _
              have HSET := hide hset; have HBS2 := hide hbS; clear hset hbS
              cases hq : goodC (M.set k (againC c d g))
              all_goals
                have HQ := hide hq
                rw [hq] at HA HA2
                clear hq
                go_wp2_with (go_at_call 52; refine (l24Good_n HQ.out hsl _ _ _ ((Own.rd_of Condition.enc_len HSET.out).later ((Below.refl _ _).alloc (Nat.le_refl _) (.cells #[.int .i64 c.number, .string c.what, .int .i64 c.every, .int .i64 d, .int .i64 g] 26))) HOK.out (by unfold maxLen; omega)).mono ?_; rintro e w5 ⟨rfl, hb5⟩)
                have BX := below_step (below_step HBS2.out ((Below.refl _ _).alloc (Nat.le_refl _) (.cells #[.int .i64 c.number, .string c.what, .int .i64 c.every, .int .i64 d, .int .i64 g] 26)) (Nat.le_refl _)) hb5 (Nat.le_refl _)
                have hfin := Own.below (Own.below HSET.out ((Below.refl _ _).alloc (Nat.le_refl _) (.cells #[.int .i64 c.number, .string c.what, .int .i64 c.every, .int .i64 d, .int .i64 g] 26))) hb5
              · go_roundw
                case rel => exact ⟨k + 1, _, by omega, by go_num, hsl, hfin, hide (.inr ⟨HA2.out, HLAT.out⟩), BX⟩
                case measure => simp [intOf] <;> omega
              · go_ret2
                have HL : agV M n d g = M.set k (againC c d g) := by simp [agV, HA.out, HA1.out]
                rw [HL, HA.out]
                exact ⟨_, _, by rw [hsl]; rfl, by rw [hsl]; exact hfin, BX⟩
          · exact absurd hn (h2 k c (Nat.le_refl _) hgk).2
        · have hb0 : (c.number != n) = true := by simpa using hn
          have HST := hide (show M = L ∧ Ahead L n d (k + 1) ∨ agA L n d g = false ∧ (∀ (j : Nat) (c : Condition), k + 1 ≤ j → L[j]? = some c → M[j]? = some c ∧ ¬ c.number = n) from by
            rcases hst.out with ⟨h1, h2⟩ | ⟨h1, h2⟩
            · exact .inl ⟨h1, h2.next hgk (fun h => hn h.1)⟩
            · exact .inr ⟨h1, fun j x hj hx => h2 j x (by omega) hx⟩)
          clear hn
          go_wp2_with fail
          go_roundw
          case rel => exact ⟨k + 1, M, by omega, by go_num, hML, Own.below hown hbB, HST, below_step BW hbB (Nat.le_refl _)⟩
          case measure => simp [intOf] <;> omega
      · obtain rfl : k = L.length := by omega
        have HB := hide (show agB L n d g = false by
          rcases hst.out with ⟨_, h2⟩ | ⟨h1, _⟩
          · simp [agB, ahead_end (d := d) g h2]
          · simp [agB, h1])
        have HL := hide (hno HB.out)
        go_wp2_with fail
        go_ret2
        rw [HL.out, HB.out]
        exact ⟨_, _, rfl, own_empty BW.size, below_step BW ((Below.refl _ _).alloc (Nat.le_refl _) _) (Nat.le_refl _)⟩
end Go.Proofs.Ytknondhdhjegbaa
