/- Rows of rows of numbers that a call made: equal, marked, held. Slices are as the maker leaves them; marks are at most 10^8. -/
import Derived.Test.YtknondhdhjegbaaGrid
import Derived.Test.YtknondhdhjegbaaInts
namespace Go.Proofs.Ytknondhdhjegbaa
open Go Go.RowKit
set_option linter.unusedVariables false
theorem Row.enc_one (r : Row) : ∀ u ∈ r.enc, u.oneCell' = true := by
  intro u hu
  simp only [Row.enc, List.mem_singleton] at hu
  subst hu; simp [Value.oneCell']
/- a table: the outer row, the inner rows, each in a block of its own; all blocks lie from lo on, before hi -/
def Tab (lo hi : Nat) (w : World) (A : Option Addr) (cap : Nat) (V : List (List Int)) : Prop :=
  ∃ R : List Row, R.map Row.xs = V ∧ Own Row.enc 1 39 lo w (.slice A R.length cap) R ∧ OwnRows 3 lo w R ∧ (∀ g, A = some ⟨g, 0, none⟩ → g < hi ∧ ∀ r ∈ R, r.a ≠ some ⟨g, 0, none⟩) ∧ ∀ r ∈ R, ∀ g, r.a = some ⟨g, 0, none⟩ → g < hi
def GivesT (V : List (List Int)) (mk : Value → Value) (w : World) (e : Ending) (w' : World) : Prop :=
  ∃ (A : Option Addr) (cap : Nat), e = .returned (mk (.slice A V.length cap)) ∧ Tab w.heap.size w'.heap.size w' A cap V ∧ Below w.heap.size w w'
section
variable {lo hi cap : Nat} {w w' : World} {A : Option Addr} {V : List (List Int)}
theorem Tab.mono {lo' hi' : Nat} (h : Tab lo hi w A cap V) (h1 : lo' ≤ lo) (h2 : hi ≤ hi') : Tab lo' hi' w A cap V := by
  obtain ⟨R, e, ho, hr, ha, hb⟩ := h
  refine ⟨R, e, ho.mono h1, ⟨fun r hm => ?_, hr.2⟩, fun g hg => ⟨Nat.lt_of_lt_of_le (ha g hg).1 h2, (ha g hg).2⟩, fun r hm g hg => Nat.lt_of_lt_of_le (hb r hm g hg) h2⟩
  obtain ⟨g, h3, h4⟩ := hr.1 r hm
  exact ⟨g, h3, h4.mono h1⟩
theorem Tab.below (h : Tab lo hi w A cap V) (hb : Below w.heap.size w w') : Tab lo hi w' A cap V := by
  obtain ⟨R, e, ho, hr, ha, hc⟩ := h
  exact ⟨R, e, ho.below hb, hr.below hb, ha, hc⟩
theorem Tab.among {lo2 hi2 : Nat} (h : Tab lo hi w A cap V) (ha2 : Among lo2 hi2 w w') (hk : hi ≤ lo2 ∨ hi2 ≤ lo) : Tab lo hi w' A cap V := by
  obtain ⟨R, e, ho, hr, ha, hc⟩ := h
  refine ⟨R, e, ha2.own ho fun k hkk => ?_, hr.among ha2 fun r hm g hg => ?_, ha, hc⟩
  · have h1 := World.ownsRow.lt ho k hkk
    have h2 : k < hi := by
      cases A with
      | none => cases hkk
      | some a =>
        rcases ho.2 with ⟨h3, _⟩ | ⟨g, c2, cur, h3, _⟩
        · cases h3
        · injection h3 with h3
          have h4 : some k = some g := by rw [← hkk]; rw [h3]; rfl
          injection h4 with h4
          subst h4
          exact (ha k h3).1
    omega
  · have h1 := hr.lt hm hg
    have h2 := hc r hm g hg
    omega
theorem Tab.low {m : Nat} (h : Tab lo hi w A cap V) (hb : Below m w w') (hm : hi ≤ m) : Tab lo hi w' A cap V := by
  refine h.among (lo2 := m) (hi2 := w.heap.size) ⟨hb.os, hb.tape, hb.output, hb.size, fun k hk ho => ?_⟩ (.inl hm)
  rcases ho with h1 | h1
  · exact hb.block k h1
  · omega
theorem Tab.grown {row : Option Nat} (h : Tab lo hi w A cap V) (hg : w.grownBy w' row) (hk : ∀ k, row = some k → k < lo ∨ hi ≤ k) : Tab lo hi w' A cap V := by
  cases row with
  | none => exact h.below ⟨hg.os, hg.tape, hg.output, hg.size, fun i hi => hg.block i hi (by simp)⟩
  | some k =>
    refine h.among (lo2 := k) (hi2 := k + 1) (Among.grown hg (Nat.le_refl _) (Nat.lt_succ_self _)) ?_
    rcases hk k rfl with h1 | h1
    · right; omega
    · left; exact h1
theorem Tab.len (h : Tab lo hi w A cap V) : ∃ R : List Row, R.map Row.xs = V ∧ R.length = V.length ∧ Rd Row.enc 1 w.heap.size w A R ∧ Deep w.heap.size w R := by
  obtain ⟨R, e, ho, hr, _⟩ := h
  exact ⟨R, e, by rw [← e, List.length_map], Own.rd_of Row.enc_len ho, hr.deep⟩
end
theorem row_cell {w : World} {A : Option Addr} {R : List Row} (h : Rd Row.enc 1 w.heap.size w A R) (hR : R ≠ []) : ∃ b o, A = some ⟨b, o, none⟩ ∧ ∀ (k : Nat) (r : Row), R[k]? = some r → w.cell? ⟨b, o + k, none⟩ = some (.slice r.a r.xs.length r.c) := by
  obtain ⟨b, o, hA, hb, hc⟩ := h.at_ hR
  refine ⟨b, o, hA, fun k r hk => ?_⟩
  have := hc k r hk 0 _ rfl
  simpa using this
def totV : List (List Int) → Nat
  | [] => 0
  | r :: t => r.length + totV t
theorem totV_append (a b : List (List Int)) : totV (a ++ b) = totV a + totV b := by
  induction a with
  | nil => simp [totV]
  | cons r t ih => simp [totV, ih]; omega
theorem totV_take {V : List (List Int)} {k : Nat} (h : k < V.length) : totV (V.take (k + 1)) = totV (V.take k) + V[k].length := by
  rw [take_snocL V k h, totV_append]; simp [totV]
theorem totV_le {V : List (List Int)} (k : Nat) : totV (V.take k) ≤ totV V := by
  have := totV_append (V.take k) (V.drop k)
  rw [List.take_append_drop] at this
  omega
def mkV (k0 : Int) : List (List Int) → List (List Int)
  | [] => []
  | r :: t => mkI k0 r.length :: mkV (k0 + r.length) t
theorem mkV_len : ∀ (k0 : Int) (V : List (List Int)), (mkV k0 V).length = V.length
  | _, [] => rfl
  | k0, r :: t => by simp [mkV, mkV_len]
theorem mkV_get : ∀ (V : List (List Int)) (k0 : Int) (k : Nat) (x : List Int), (mkV k0 V)[k]? = some x → x = mkI (k0 + totV (V.take k)) x.length ∧ ∀ y, V[k]? = some y → x.length = y.length
  | [], _, k, x, h => by simp [mkV] at h
  | r :: t, k0, 0, x, h => by
    simp [mkV] at h
    subst h
    refine ⟨by simp [totV, mkI_len], fun y hy => ?_⟩
    simp at hy
    subst hy
    exact mkI_len _ _
  | r :: t, k0, k + 1, x, h => by
    simp only [mkV, List.getElem?_cons_succ] at h
    obtain ⟨h1, h2⟩ := mkV_get t (k0 + r.length) k x h
    refine ⟨?_, fun y hy => h2 y (by simpa using hy)⟩
    rw [List.take_succ_cons, totV]
    have e : k0 + ((r.length + totV (t.take k) : Nat) : Int) = k0 + r.length + totV (t.take k) := by omega
    rw [e]; exact h1
def mkR (k0 : Int) : List Row → List Row
  | [] => []
  | r :: t => { r with xs := mkI k0 r.xs.length } :: mkR (k0 + r.xs.length) t
theorem mkR_xs : ∀ (k0 : Int) (R : List Row), (mkR k0 R).map Row.xs = mkV k0 (R.map Row.xs)
  | _, [] => rfl
  | k0, r :: t => by simp [mkR, mkV, mkR_xs]
theorem mkR_len (k0 : Int) (R : List Row) : (mkR k0 R).length = R.length := by
  have := congrArg List.length (mkR_xs k0 R)
  rw [List.length_map, mkV_len, List.length_map] at this
  exact this
theorem mkR_enc : ∀ (k0 : Int) (R : List Row), (mkR k0 R).flatMap Row.enc = R.flatMap Row.enc
  | _, [] => rfl
  | k0, r :: t => by
    simp only [mkR, List.flatMap_cons, mkR_enc]
    simp [Row.enc, mkI_len]
theorem mkR_a : ∀ (k0 : Int) (R : List Row), (mkR k0 R).map Row.a = R.map Row.a
  | _, [] => rfl
  | k0, r :: t => by simp [mkR, mkR_a]
theorem mkR_snoc : ∀ (R : List Row) (k0 : Int) (r : Row), mkR k0 (R ++ [r]) = mkR k0 R ++ [{ r with xs := mkI (k0 + totV (R.map Row.xs)) r.xs.length }]
  | [], k0, r => by simp [mkR, totV]
  | s :: t, k0, r => by
    simp only [List.cons_append, mkR, mkR_snoc t, List.map_cons, totV]
    have e : k0 + ((s.xs.length + totV (t.map Row.xs) : Nat) : Int) = k0 + s.xs.length + totV (t.map Row.xs) := by omega
    rw [e]
theorem OwnRows.mark {T : TypeId} {lo : Nat} {w w' : World} {X Y : List Row} {r r' : Row} {g : Nat} (h : OwnRows T lo w (X ++ r :: Y)) (hg : w.grownBy w' (some g)) (hr : r.a = some ⟨g, 0, none⟩) (ha : r'.a = r.a) (ho : Own encI 1 T lo w' r'.val r'.xs) : OwnRows T lo w' (X ++ r' :: Y) := by
  obtain ⟨h1, h2⟩ := h
  obtain ⟨p1, p2, p3⟩ := List.pairwise_append.1 h2
  obtain ⟨p4, p5⟩ := List.pairwise_cons.1 p2
  have keep : ∀ s, s ∈ X ++ r :: Y → s.a ≠ r.a → ∃ q, s.a = some ⟨q, 0, none⟩ ∧ Own encI 1 T lo w' s.val s.xs := by
    intro s hs hne
    obtain ⟨q, e1, e2⟩ := h1 s hs
    refine ⟨q, e1, World.ownsRow.kept e2 hg (.inr ?_)⟩
    simp only [Row.val, e1, Value.ownBlock]
    intro e
    injection e with e
    exact hne (by rw [e1, hr, e])
  refine ⟨fun s hs => ?_, ?_⟩
  · rcases List.mem_append.1 hs with hx | hx
    · exact keep s (List.mem_append_left _ hx) (p3 s hx r (List.mem_cons_self ..))
    · rcases List.mem_cons.1 hx with hx | hx
      · subst hx; exact ⟨g, ha.trans hr, ho⟩
      · exact keep s (List.mem_append_right _ (List.mem_cons_of_mem _ hx)) (Ne.symm (p4 s hx))
  · refine List.pairwise_append.2 ⟨p1, List.pairwise_cons.2 ⟨fun s hs => by rw [ha]; exact p4 s hs, p5⟩, fun s hs t ht => ?_⟩
    rcases List.mem_cons.1 ht with h3 | h3
    · subst h3; rw [ha]; exact p3 s hs r (List.mem_cons_self ..)
    · exact p3 s hs t (List.mem_cons_of_mem _ h3)
set_option maxHeartbeats 2000000 in
theorem eqIntSS_same (V : List (List Int)) (A B : Option Addr) (lo hi lo2 hi2 ca cb : Nat) (w : World) (hn : V.length ≤ 1000000) (hm : ∀ x ∈ V, x.length ≤ 1000000) (ha : Tab lo hi w A ca V) (hb : Tab lo2 hi2 w B cb V) :
    Calls Try.prog 45 #[.slice A V.length ca, .slice B V.length cb] w fun e w' => e = .returned (.bool true) ∧ Below w.heap.size w w' := by
  obtain ⟨R, eR, lR, rR, dR⟩ := ha.len
  obtain ⟨S, eS, lS, rS, dS⟩ := hb.len
  clear ha hb
  by_cases hV : V = []
  · subst hV
    go_enter Try.func45, Try.ntmps45
    go_wp2_with fail
    go_loop [5] (fun i => i = .int .i64 0) (fun _ => 0)
    case atStart => rfl
    case round =>
      obtain rfl := hrel
      go_wp2_with fail
      go_ret
      exact ⟨rfl, Below.refl _ _⟩
  · have hV0 := List.length_pos_iff.2 hV
    obtain ⟨b1, o1, rfl, hc1⟩ := row_cell rR (by intro h; rw [h] at lR; simp at lR; omega)
    obtain ⟨b2, o2, rfl, hc2⟩ := row_cell rS (by intro h; rw [h] at lS; simp at lS; omega)
    go_enter Try.func45, Try.ntmps45
    go_wp2_with fail
    go_loopw [5] (fun i wr => ∃ k : Nat, k ≤ V.length ∧ i = .int .i64 k ∧ Below w.heap.size w wr) (fun i _ => V.length - (intOf i).toNat)
    case atStart => exact ⟨0, Nat.zero_le _, rfl, Below.refl _ _⟩
    case round =>
      obtain ⟨k, hk, rfl, hbw⟩ := hrel
      by_cases hlt : k < V.length
      · have hkR : k < R.length := by omega
        have hkS : k < S.length := by omega
        have y1 := after_cell (below_cell hbw (hc1 k _ (List.getElem?_eq_getElem hkR)))
        have y2 := after_cell (below_cell hbw (hc2 k _ (List.getElem?_eq_getElem hkS)))
        have q1 := (dR _ (List.getElem_mem hkR)).later hbw
        have q2 := (dS _ (List.getElem_mem hkS)).later hbw
        have hxs : R[k].xs = S[k].xs := by
          have e1 : (R.map Row.xs)[k]'(by simpa using hkR) = (S.map Row.xs)[k]'(by simpa using hkS) := by simp only [eR, eS]
          simpa using e1
        have hxl : R[k].xs.length ≤ 1000000 := hm _ (by rw [← eR]; exact List.mem_map_of_mem (List.getElem_mem hkR))
        have hki : (k : Int) < (V.length : Int) := by omega
        generalize R[k] = r at *
        generalize S[k] = s at *
        rw [← hxs] at y2 q2
        have Q1 := hide q1; have Q2 := hide q2
        clear q1 q2 hxs
        go_wp2_with fail
        refine wp_region_after (by kernel_rfl) (by kernel_rfl) ?_
        repeat (go_big_quiet_step ((go_at_call 25; exact Calls.after (eqIntS_same r.xs _ _ _ _ _ (by omega) (Q1.out.later (Subtype.property _)) (Q2.out.later (Subtype.property _))))))
        refine wpQuiet_nil ?_
        rintro _ ⟨⟨w1, hb1⟩, rfl⟩
        go_wp2_with fail
        go_roundw
        case rel => exact ⟨k + 1, by omega, by go_num, below_step hbw hb1 (Nat.le_refl _)⟩
        case measure => simp [intOf] <;> omega
      · have hki : ¬ (k : Int) < (V.length : Int) := by omega
        go_wp2_with fail
        go_ret
        exact ⟨rfl, hbw⟩
set_option maxRecDepth 100000 in
set_option maxHeartbeats 2000000 in
theorem markIntSS_any (V : List (List Int)) (A : Option Addr) (lo hi cap : Nat) (k0 : Int) (w : World) (h0 : 0 ≤ k0) (h1 : k0 + totV V ≤ 100000000) (hn : V.length ≤ 1000000) (hlo : lo ≤ w.heap.size) (h : Tab lo hi w A cap V) :
    Calls Try.prog 46 #[.slice A V.length cap, .int .i64 k0] w fun e w' => e = .returned (.int .i64 (k0 + totV V)) ∧ Tab lo hi w' A cap (mkV k0 V) ∧ Below lo w w' := by
  obtain ⟨R, eR, ho, hr, ha, hh⟩ := h
  have lR : R.length = V.length := by rw [← eR, List.length_map]
  by_cases hV : V = []
  · subst hV
    have hR0 : R = [] := List.length_eq_zero_iff.1 lR
    go_enter Try.func46, Try.ntmps46
    go_wp2_with fail
    go_loop [5, 1] (fun i x => i = .int .i64 0 ∧ x = .int .i64 k0) (fun _ _ => 0)
    case atStart => exact ⟨rfl, rfl⟩
    case round =>
      obtain ⟨rfl, rfl⟩ := hrel
      go_wp2_with fail
      go_ret
      refine ⟨ret_int (by simp [totV]), ?_, Below.refl _ _⟩
      subst hR0
      exact ⟨[], rfl, ho, hr, ha, hh⟩
  · have hV0 := List.length_pos_iff.2 hV
    obtain ⟨b1, o1, hA1, hc1⟩ := row_cell (Own.rd_of Row.enc_len ho) (by intro h; rw [h] at lR; simp at lR; omega)
    obtain ⟨g0, hA0, hg0l, hg0h⟩ := own_form ho (by omega)
    rw [hA0] at hA1
    injection hA1 with hA1
    injection hA1 with hb1 ho1
    subst hb1 ho1
    subst hA0
    have hap := (ha g0 rfl).2
    have HAP := hide hap
    have HC := hide hc1
    clear hap hc1
    go_enter Try.func46, Try.ntmps46
    go_wp2_with fail
    go_loopw [5, 1] (fun i x wr => ∃ k : Nat, k ≤ V.length ∧ i = .int .i64 k ∧ x = .int .i64 (k0 + totV (V.take k)) ∧ Hid (OwnRows 3 lo wr (mkR k0 (R.take k) ++ R.drop k)) ∧ Hid (w.heap[g0]? = wr.heap[g0]?) ∧ Below lo w wr) (fun i _ _ => V.length - (intOf i).toNat)
    case atStart => exact ⟨0, Nat.zero_le _, rfl, by simp [totV], hide (by simpa [mkR] using hr), hide rfl, Below.refl _ _⟩
    case round =>
      obtain ⟨k, hk, rfl, rfl, HR, HB, hbw⟩ := hrel
      by_cases hlt : k < V.length
      · have hkR : k < R.length := by omega
        have hget := List.getElem?_eq_getElem hkR
        have hD := List.drop_eq_getElem_cons hkR
        have hT := take_snocL R k hkR
        have hVR : V[k] = R[k].xs := by subst eR; simp
        have htk := totV_take hlt
        have htl := totV_le (V := V) (k + 1)
        have hVt : V.take k = (R.take k).map Row.xs := by rw [← eR, List.map_take]
        have y := HC.out k _ hget
        have y2 : wr.cell? ⟨g0, 0 + k, none⟩ = some (.slice R[k].a R[k].xs.length R[k].c) := by
          have e : ∀ W : World, W.heap[g0]? = w.heap[g0]? → W.cell? ⟨g0, 0 + k, none⟩ = w.cell? ⟨g0, 0 + k, none⟩ := fun W hW => by simp only [World.cell?, hW]
          rw [e wr HB.out.symm]; exact y
        rw [hVR] at htk
        have hro := HR.out
        rw [hD] at hro
        have HNE := hide (fun (g : Nat) (hg : R[k].a = some ⟨g, 0, none⟩) (e : g = g0) => HAP.out R[k] (List.getElem_mem hkR) (by rw [hg, e]))
        generalize R[k] = r at *
        have hki : (k : Int) < (V.length : Int) := by omega
        obtain ⟨g, hg, hor⟩ := hro.1 r (List.mem_append_right _ (List.mem_cons_self ..))
        have hgl := (World.ownsRow.lt hor g (by simp [Row.val, hg, Value.ownBlock])).1
        have HOR := hide (show Own encI 1 3 lo wr (.slice (some ⟨g, 0, none⟩) r.xs.length r.c) r.xs by rw [← hg]; exact hor); have HRO := hide hro; have HT := hide hT; have HVT := hide hVt; have HTK := hide htk
        obtain ⟨y0, hy0⟩ : ∃ y0 : Int, y0 = k0 + totV (V.take k) := ⟨_, rfl⟩
        rw [← hy0]
        rw [Nat.zero_add] at y2
        have hb0 : 0 ≤ y0 := by omega
        have hb1 : y0 + r.xs.length ≤ 100000000 := by omega
        have HY := hide hy0
        clear y hor hro hT hVt htk hD hget hVR hy0
        go_wp2_with (go_at_call 27; refine (markIntS_any r.xs (some ⟨g, 0, none⟩) r.c lo 3 y0 _ hb0 hb1 HOR.out).mono ?_; rintro e w1 ⟨rfl, o1, g1⟩)
        have g2 : wr.grownBy w1 (some g) := g1
        have hmk := OwnRows.mark (r' := { r with xs := mkI y0 r.xs.length }) HRO.out g2 hg rfl (by show Own encI 1 _ lo w1 (.slice r.a (mkI y0 r.xs.length).length r.c) _; rw [mkI_len, hg]; exact o1)
        have hbl : Below lo w w1 := hbw.grown g2 (by have := hbw.size; omega) (fun q hq => by injection hq with hq; omega)
        have hne := HNE.out g hg
        have hgg : w1.heap[g0]? = wr.heap[g0]? := g2.block g0 (by have := hbw.size; omega) (by intro e; injection e with e; exact hne e.symm)
        have htk2 := HTK.out
        have hy2 := HY.out
        go_roundw
        case rel => exact ⟨k + 1, by omega, by first | (refine congrArg (Value.int .i64) ?_; omega) | go_num, by first | (refine congrArg (Value.int .i64) ?_; omega) | trace_state, hide (by
          rw [HT.out, mkR_snoc, ← HVT.out, ← hy2, List.append_assoc]
          exact hmk), hide (HB.out.trans hgg.symm), hbl⟩
        case measure => simp [intOf] <;> omega
      · have hki : ¬ (k : Int) < (V.length : Int) := by omega
        obtain rfl : k = V.length := by omega
        go_wp2_with fail
        go_ret
        have hro := HR.out
        rw [← lR, List.take_length, List.drop_length, List.append_nil] at hro
        refine ⟨ret_int (by first | rfl | rw [List.take_length]), ⟨mkR k0 R, by rw [mkR_xs, eR], ?_, hro, fun g hg => ⟨(ha g hg).1, fun r hm e => ?_⟩, fun r hm g hg => ?_⟩, hbw⟩
        · rcases ho.2 with ⟨h3, _⟩ | ⟨q, c2, cur, h3, h4, h5, h6⟩
          · cases h3
          · refine ⟨?_, .inr ⟨q, c2, cur, by rw [mkR_len]; exact h3, h4, ?_, ?_⟩⟩
            · rw [mkR_enc, mkR_len]; exact ho.1
            · have hq : q = g0 := by injection h3 with h3; injection h3 with h3; injection h3 with h3; exact h3.symm
              rw [hq, ← HB.out, ← hq]; exact h5
            · rw [mkR_enc, mkR_len]; exact h6
        · have h2 : r.a ∈ R.map Row.a := by rw [← mkR_a k0 R]; exact List.mem_map_of_mem hm
          obtain ⟨s, hs, hsa⟩ := List.mem_map.1 h2
          exact (ha g hg).2 s hs (hsa.trans e)
        · have h2 : r.a ∈ R.map Row.a := by rw [← mkR_a k0 R]; exact List.mem_map_of_mem hm
          obtain ⟨s, hs, hsa⟩ := List.mem_map.1 h2
          exact hh s hs g (hsa.trans hg)
set_option maxRecDepth 100000 in
set_option maxHeartbeats 2000000 in
theorem heldIntSS_any (V : List (List Int)) (A : Option Addr) (lo hi cap n : Nat) (k0 : Int) (w : World) (hV : V.length = n) (h0 : 0 ≤ k0) (h1 : k0 + totV V ≤ 100000000) (hn : V.length ≤ 1000000) (h : Tab lo hi w A cap (mkV k0 V)) :
    Calls Try.prog 47 #[.slice A n cap, .int .i64 k0] w fun e w' => e = .returned (.int .i64 (k0 + totV V)) ∧ w = w' := by
  subst hV
  obtain ⟨R, eR, lR, rR, dR⟩ := h.len
  rw [mkV_len] at lR
  clear h
  by_cases hV : V = []
  · subst hV
    go_enter Try.func47, Try.ntmps47
    go_wp2_with fail
    go_loop [5, 1] (fun i x => i = .int .i64 0 ∧ x = .int .i64 k0) (fun _ _ => 0)
    case atStart => exact ⟨rfl, rfl⟩
    case round =>
      obtain ⟨rfl, rfl⟩ := hrel
      go_wp2_with fail
      go_ret
      exact ⟨ret_int (by simp [totV]), rfl⟩
  · have hV0 := List.length_pos_iff.2 hV
    obtain ⟨b1, o1, rfl, hc1⟩ := row_cell rR (by intro h; rw [h] at lR; simp at lR; omega)
    have HC := hide hc1; clear hc1
    go_enter Try.func47, Try.ntmps47
    go_wp2_with fail
    go_loop [5, 1] (fun i x => ∃ k : Nat, k ≤ V.length ∧ i = .int .i64 k ∧ x = .int .i64 (k0 + totV (V.take k))) (fun i _ => V.length - (intOf i).toNat)
    case atStart => exact ⟨0, Nat.zero_le _, rfl, by simp [totV]⟩
    case round =>
      obtain ⟨k, hk, rfl, rfl⟩ := hrel
      by_cases hlt : k < V.length
      · have hkR : k < R.length := by omega
        obtain ⟨r, hget⟩ : ∃ r, R[k]? = some r := ⟨_, List.getElem?_eq_getElem hkR⟩
        have y := HC.out k r hget
        have hmk : (mkV k0 V)[k]? = some r.xs := by rw [← eR, List.getElem?_map, hget]; rfl
        obtain ⟨e1, e2⟩ := mkV_get V k0 k _ hmk
        have e3 := e2 _ (List.getElem?_eq_getElem hlt)
        have htk := totV_take hlt
        have htl := totV_le (V := V) (k + 1)
        have q := dR r (List.mem_of_getElem? hget)
        rw [← e3] at htk
        have hki : (k : Int) < (V.length : Int) := by omega
        rw [e1] at q
        obtain ⟨y0, hy0⟩ : ∃ y0 : Int, y0 = k0 + totV (V.take k) := ⟨_, rfl⟩
        rw [← hy0] at q ⊢
        have Q := hide q
        have hb0 : 0 ≤ y0 := by omega
        have hb1 : y0 + r.xs.length ≤ 100000000 := by omega
        have hnn : ¬ y0 + (r.xs.length : Int) < 0 := by omega
        clear e1 e2 e3 hmk hget q
        have HTK := hide htk; have HY := hide hy0
        clear htk hy0
        go_wp2_with (go_at_call 28; refine (heldIntS_any r.xs.length r.a r.c y0 _ hb0 hb1 Q.out).mono ?_; rintro e w1 ⟨rfl, rfl⟩)
        have htk := HTK.out; have hy0 := HY.out
        go_round
        case rel => exact ⟨k + 1, by omega, by first | (refine congrArg (Value.int .i64) ?_; omega) | go_num, by first | (refine congrArg (Value.int .i64) ?_; omega) | trace_state⟩
        case measure => simp [intOf] <;> omega
      · have hki : ¬ (k : Int) < (V.length : Int) := by omega
        obtain rfl : k = V.length := by omega
        go_wp2_with fail
        go_ret
        exact ⟨ret_int (by first | rfl | rw [List.take_length]), rfl⟩
end Go.Proofs.Ytknondhdhjegbaa
