/- Uses of parts: the program's run. -/
import Derived.Test.YtlphegjhkchglaaSort2
import Derived.Test.YtlphegjhkchglaaUseR
namespace Go.Proofs.Ytlphegjhkchglaa
open Go Go.RowKit
set_option linter.unusedVariables false
set_option linter.unusedSimpArgs false
def dI (U : List Use) (D : Int) (k : Nat) : List Nat := (List.range k).filter fun i => decide (dayU U i ≤ D)
theorem dI_yes {U : List Use} {D : Int} {k : Nat} (hd : dayU U k ≤ D) : dI U D (k + 1) = dI U D k ++ [k] := by unfold dI; rw [List.range_succ, List.filter_append]; simp [hd]
theorem dI_no {U : List Use} {D : Int} {k : Nat} (hd : ¬ dayU U k ≤ D) : dI U D (k + 1) = dI U D k := by unfold dI; rw [List.range_succ, List.filter_append]; simp [hd]
theorem dI_len (U : List Use) (D : Int) (k : Nat) : (dI U D k).length ≤ k := by
  have := List.length_filter_le (fun i => decide (dayU U i ≤ D)) (List.range k)
  rwa [List.length_range] at this
theorem dI_lt {U : List Use} {D : Int} {k i : Nat} (h : i ∈ dI U D k) : i < k := by simpa using (List.mem_filter.1 h).1
theorem dI_sort (U : List Use) (D : Int) : ordL (gtK (dayU U)) (dI U D U.length) = dueU U D := (dueU_is U D).symm
theorem due_len (U : List Use) (D : Int) : (dueU U D).length = (dI U D U.length).length := by rw [← dI_sort, ordL_len]
theorem run_t {L : List Part} {U : List Use} (h : usesB L U = true) {D : Int} {k : Nat} {S M : List Int} (hr : runO L U ((dueU U D).take k) = (S, M)) : S.length = L.length ∧ (∀ x ∈ S, 0 ≤ x ∧ x ≤ 500) ∧ M.length ≤ 20 := by
  obtain ⟨f1, f2, f3, _⟩ := run_facts h _ ((dueU U D).take k) rfl (fun i hi => due_lt (List.mem_of_mem_take hi))
  rw [hr] at f1 f2 f3
  refine ⟨f1, f2, ?_⟩
  have h1 : ((dueU U D).take k).length ≤ (dueU U D).length := by rw [List.length_take]; omega
  have h2 := dI_len U D U.length
  have h3 := (usesB_len h).2
  rw [due_len] at h1
  simp only at f3
  omega
theorem run_step {L : List Part} {U : List Use} {D : Int} {k i : Nat} (h : (dueU U D)[k]? = some i) : runO L U ((dueU U D).take (k + 1)) = runS L U (runO L U ((dueU U D).take k)) i := by
  obtain ⟨hlt, rfl⟩ := List.getElem?_eq_some_iff.1 h
  rw [take_snocL _ k hlt, runO_snoc]
set_option maxRecDepth 100000 in
set_option maxHeartbeats 8000000 in
theorem use_any (L : List Part) (U : List Use) (D : Int) (A0 A1 : Option Addr) (c0 c1 : Nat) (w : World) (h : usesB L U = true) (r0 : Rd Part.enc 5 w.heap.size w A0 L) (r1 : Rd Use.enc 3 w.heap.size w A1 U) :
    Calls Try.prog 69 #[.slice A0 L.length c0, .slice A1 U.length c1, .int .i64 D] w fun e w' => ∃ (g cg q cq : Nat), e = .returned (.tuple #[.slice (some ⟨g, 0, none⟩) L.length cg, .slice (some ⟨q, 0, none⟩) (missL L U D).length cq]) ∧ Own encI 1 3 w.heap.size w' (.slice (some ⟨g, 0, none⟩) L.length cg) (runL L U D).1 ∧ Own encI 1 3 w.heap.size w' (.slice (some ⟨q, 0, none⟩) (missL L U D).length cq) (missL L U D) ∧ Below w.heap.size w w' := by
  obtain ⟨hl10, hu20⟩ := usesB_len h
  have l0 : L.length ≤ maxLen := by unfold maxLen; omega
  have H := hide h; clear h
  have hbb : Below w.heap.size w (w.alloc (.cells #[.slice A1 U.length c1] 42)) := (Below.refl _ _).alloc (Nat.le_refl _) _
  have hb0 : Below (w.heap.size + 1) (w.alloc (.cells #[.slice A1 U.length c1] 42)) ((((w.alloc (.cells #[.slice A1 U.length c1] 42)).alloc (.cells #[] 3)).alloc (.cells #[] 3)).alloc (.cells #[] 3)) := (((Below.refl _ _).alloc (by simp) _).alloc (by simp) _).alloc (by simp) _
  have zb : ((w.alloc (.cells #[.slice A1 U.length c1] 42))).cell? ⟨w.heap.size, 0, none⟩ = some (.slice A1 U.length c1) := cell_new w #[.slice A1 U.length c1] 42 w.heap.size 0 _ rfl rfl
  have e1 : Own encI 1 3 (w.heap.size + 1) (((w.alloc (.cells #[.slice A1 U.length c1] 42))).alloc (.cells #[] 3)) (.slice (some ⟨w.heap.size + 1, 0, none⟩) 0 0) [] := by simpa using (own_empty (enc := encI) (sz := 1) (T := 3) (lo := (w.heap.size + 1)) (w := (w.alloc (.cells #[.slice A1 U.length c1] 42))) (by simp))
  have e2 : Own encI 1 3 (w.heap.size + 1) ((((w.alloc (.cells #[.slice A1 U.length c1] 42))).alloc (.cells #[] 3)).alloc (.cells #[] 3)) (.slice (some ⟨w.heap.size + 2, 0, none⟩) 0 0) [] := by simpa using (own_empty (enc := encI) (sz := 1) (T := 3) (lo := (w.heap.size + 1)) (w := ((w.alloc (.cells #[.slice A1 U.length c1] 42))).alloc (.cells #[] 3)) (by simp))
  have ho1 : Own encI 1 3 (w.heap.size + 1) ((((w.alloc (.cells #[.slice A1 U.length c1] 42)).alloc (.cells #[] 3)).alloc (.cells #[] 3)).alloc (.cells #[] 3)) (.slice (some ⟨w.heap.size + 1, 0, none⟩) 0 0) [] := World.ownsRow.alloc (World.ownsRow.alloc e1 _) _
  have ho2 : Own encI 1 3 (w.heap.size + 1) ((((w.alloc (.cells #[.slice A1 U.length c1] 42)).alloc (.cells #[] 3)).alloc (.cells #[] 3)).alloc (.cells #[] 3)) (.slice (some ⟨w.heap.size + 2, 0, none⟩) 0 0) [] := World.ownsRow.alloc e2 _
  have ho3 : Own encI 1 3 (w.heap.size + 1) ((((w.alloc (.cells #[.slice A1 U.length c1] 42)).alloc (.cells #[] 3)).alloc (.cells #[] 3)).alloc (.cells #[] 3)) (.slice (some ⟨w.heap.size + 3, 0, none⟩) 0 0) [] := by simpa using (own_empty (enc := encI) (sz := 1) (T := 3) (lo := (w.heap.size + 1)) (w := (((w.alloc (.cells #[.slice A1 U.length c1] 42))).alloc (.cells #[] 3)).alloc (.cells #[] 3)) (by simp))
  clear e1 e2
  go_enter Try.func69, Try.ntmps69
  go_wp2_with fail
  go_loopw [23, 8] (fun i s wr => ∃ (k g cap : Nat), k ≤ L.length ∧ i = .int .i64 k ∧ s = .slice (some ⟨g, 0, none⟩) (havL L k).length cap ∧ Own encI 1 3 (w.heap.size + 1) wr (.slice (some ⟨g, 0, none⟩) (havL L k).length cap) (havL L k) ∧ w.heap.size + 2 ≠ g ∧ w.heap.size + 3 ≠ g ∧ Own encI 1 3 (w.heap.size + 1) wr (.slice (some ⟨w.heap.size + 2, 0, none⟩) 0 0) [] ∧ Own encI 1 3 (w.heap.size + 1) wr (.slice (some ⟨w.heap.size + 3, 0, none⟩) 0 0) [] ∧ Below (w.heap.size + 1) (w.alloc (.cells #[.slice A1 U.length c1] 42)) wr) (fun i _ _ => L.length - (intOf i).toNat)
  case atStart => exact ⟨0, w.heap.size + 1, 0, Nat.zero_le _, rfl, rfl, ho1, by omega, by omega, ho2, ho3, hb0⟩
  case round =>
    clear ho1 ho2 ho3 hb0
    obtain ⟨k, g, cap, hk, rfl, rfl, hos, hne1, hne2, hoo, hom, hbel⟩ := hrel
    have hwb := hbb.trans (hbel.mono (Nat.le_succ _))
    by_cases hlt : k < L.length
    · have hki : (k : Int) < (L.length : Int) := by omega
      obtain ⟨b, ob, rfl, _, hc⟩ := Part.rd_at r0 (by intro h; subst h; simp at hlt)
      have hg := List.getElem?_eq_getElem hlt
      obtain ⟨y0, y1, y2, y3, y4⟩ := hc k _ hg
      have HS := hide (havL_step hg)
      have hsl : (havL L k).length ≤ 10 := by rw [havL_len hk]; omega
      generalize L[k] = c at *
      generalize havL L k = S at *
      replace y0 := below_cell hwb y0; replace y1 := below_cell hwb y1; replace y2 := below_cell hwb y2; replace y3 := below_cell hwb y3; replace y4 := below_cell hwb y4
      clear hc hg
      have hws := hbel.size
      have hws2 : w.heap.size + 1 ≤ wr.heap.size := by simpa using hws
      have hos' := World.ownsRow.alloc hos (.cells #[.string c.name, .int .i64 c.have_, .int .i64 c.least, .int .i64 c.lead, .int .i64 c.price] 62); have hoo' := World.ownsRow.alloc hoo (.cells #[.string c.name, .int .i64 c.have_, .int .i64 c.least, .int .i64 c.lead, .int .i64 c.price] 62); have hom' := World.ownsRow.alloc hom (.cells #[.string c.name, .int .i64 c.have_, .int .i64 c.least, .int .i64 c.lead, .int .i64 c.price] 62)
      go_wp2_with (at_builtin; refine wpList_push2 _ rfl (.tmp 27) (.tmp 30) 33 3 rfl Try.underlying33 infoI rfl (by omega) (by omega) encI_len encI_one (w.heap.size + 1) _ cap S c.have_ _ rfl rfl _ rfl (by first | rfl | simp) hos' (by simp; omega) (by omega) ?_; intro q5 cap5 w5 ho5 hb5 hg5 hq5)
      go_roundw
      case rel => exact ⟨k + 1, q5, cap5, by omega, by go_num, sl_eq (by rw [HS.out]; simp), by rw [HS.out, List.length_append]; exact ho5, push_ne hoo' hq5 hne1, push_ne hom' hq5 hne2, push_keep hoo' hg5 hne1, push_keep hom' hg5 hne2, (hbel.alloc hws2 _).trans hb5⟩
      case measure => simp [intOf] <;> omega
    · obtain rfl : k = L.length := by omega
      have hsl := havL_len (Nat.le_refl L.length)
      rw [havL_all] at hos hsl ⊢
      rw [hsl] at hos ⊢
      have zr := hbel.cell (p := ⟨w.heap.size, 0, none⟩) (Nat.lt_succ_self _)
      rw [zb] at zr
      go_wp2_with fail
      have hbel1 := hbel
      go_loopw [35, 9] (fun i s wr => ∃ (k go cap2 : Nat), k ≤ U.length ∧ i = .int .i64 k ∧ s = .slice (some ⟨go, 0, none⟩) (toI (dI U D k)).length cap2 ∧ Own encI 1 3 (w.heap.size + 1) wr (.slice (some ⟨go, 0, none⟩) (toI (dI U D k)).length cap2) (toI (dI U D k)) ∧ g ≠ go ∧ w.heap.size + 3 ≠ go ∧ Own encI 1 3 (w.heap.size + 1) wr (.slice (some ⟨g, 0, none⟩) L.length cap) (run0 L).1 ∧ Own encI 1 3 (w.heap.size + 1) wr (.slice (some ⟨w.heap.size + 3, 0, none⟩) 0 0) [] ∧ Below (w.heap.size + 1) (w.alloc (.cells #[.slice A1 U.length c1] 42)) wr) (fun i _ _ => U.length - (intOf i).toNat)
      case atStart => exact ⟨0, w.heap.size + 2, 0, Nat.zero_le _, rfl, rfl, hoo, Ne.symm hne1, by omega, hos, hom, hbel⟩
      case round =>
        clear hoo hos hom hbel hwb zr
        obtain ⟨k, go, cap2, hk, rfl, rfl, hoo, hne3, hne4, hos, hom, hbel⟩ := hrel
        have hwb := hbb.trans (hbel.mono (Nat.le_succ _))
        have zr := hbel.cell (p := ⟨w.heap.size, 0, none⟩) (Nat.lt_succ_self _)
        rw [zb] at zr
        by_cases hlt : k < U.length
        · have hki : (k : Int) < (U.length : Int) := by omega
          obtain ⟨b, ob, rfl, _, hc⟩ := Use.rd_at r1 (by intro h; subst h; simp at hlt)
          have hgk := List.getElem?_eq_getElem hlt
          obtain ⟨y0, y1, y2⟩ := hc k _ hgk
          have hday := dayU_at hgk
          have hsl : (toI (dI U D k)).length ≤ 20 := by rw [toI_len]; have := dI_len U D k; omega
          have hyes := dI_yes (U := U) (D := D) (k := k); have hno := dI_no (U := U) (D := D) (k := k)
          rw [hday] at hyes hno
          have HY := hide hyes; have HN := hide hno
          generalize U[k] = u at *
          replace y0 := below_cell hwb y0; replace y1 := below_cell hwb y1; replace y2 := below_cell hwb y2
          clear hc hgk hday hyes hno
          have hws := hbel.size
          have hws2 : w.heap.size + 1 ≤ wr.heap.size := by simpa using hws
          have hos' := World.ownsRow.alloc hos (.cells #[.string u.name, .int .i64 u.day, .int .i64 u.count] 60); have hoo' := World.ownsRow.alloc hoo (.cells #[.string u.name, .int .i64 u.day, .int .i64 u.count] 60); have hom' := World.ownsRow.alloc hom (.cells #[.string u.name, .int .i64 u.day, .int .i64 u.count] 60)
          by_cases hdd : u.day ≤ D
          · have HST := hide (show toI (dI U D (k + 1)) = toI (dI U D k) ++ [(k : Int)] by rw [HY.out hdd, toI_snoc])
            generalize toI (dI U D k) = O at *
            go_wp2_with (at_builtin; refine wpList_push2 _ rfl (.tmp 44) (.tmp 46) 33 3 rfl Try.underlying33 infoI rfl (by omega) (by omega) encI_len encI_one (w.heap.size + 1) _ cap2 O (k : Int) _ rfl rfl _ rfl (by first | rfl | simp) hoo' (by simp; omega) (by omega) ?_; intro q5 cap5 w5 ho5 hb5 hg5 hq5)
            go_roundw
            case rel => exact ⟨k + 1, q5, cap5, by omega, by go_num, sl_eq (by rw [HST.out]; simp), by rw [HST.out, List.length_append]; exact ho5, push_ne hos' hq5 hne3, push_ne hom' hq5 hne4, push_keep hos' hg5 hne3, push_keep hom' hg5 hne4, (hbel.alloc hws2 _).trans hb5⟩
            case measure => simp [intOf] <;> omega
          · have HST := hide (show toI (dI U D (k + 1)) = toI (dI U D k) by rw [HN.out hdd])
            go_wp2_with fail
            go_roundw
            case rel => exact ⟨k + 1, go, cap2, by omega, by go_num, sl_eq (by rw [HST.out]), by rw [HST.out]; exact hoo', hne3, hne4, hos', hom', hbel.alloc hws2 _⟩
            case measure => simp [intOf] <;> omega
        · obtain rfl : k = U.length := by omega
          obtain ⟨n, hn⟩ : ∃ n, (dueU U D).length = n := ⟨_, rfl⟩
          have hdn : (dI U D U.length).length = n := by rw [← due_len, hn]
          have htn : (toI (dI U D U.length)).length = n := by rw [toI_len, hdn]
          have hn20 : n ≤ 20 := by have := dI_len U D U.length; omega
          rw [htn] at hoo ⊢
          have hgo := own_geq hoo
          have hgol := own_ltw hoo
          have HDI := hide (fun i (hi : i ∈ dI U D U.length) => dI_lt hi)
          clear htn
          go_wp2_with (go_at_call 83; refine (order_sort U hu20 (dI U D U.length) HDI.out n hdn hn20 _ _ w.heap.size (w.heap.size + 1) go cap2 _ _ hoo zr (by omega) ((r1.below hwb).more (Nat.le_succ _)) hgo).mono ?_; rintro e w5 ⟨rfl, ho5, hg5⟩)
          rw [dI_sort] at ho5
          have hos5 := own_grown hos hg5 (.inl (by simpa [Value.ownBlock] using hne3))
          have hom5 := own_grown hom hg5 (.inl (by simpa [Value.ownBlock] using hne4))
          have B5 : Below (w.heap.size + 1) (w.alloc (.cells #[.slice A1 U.length c1] 42)) w5 := hbel.trans (below_moved hg5 hgo (by have := hbel.size; simpa using this))
          clear hoo hos hom hbel hg5 hbel1 hwb zr HDI
          go_loopw [54, 10] (fun i m wr => ∃ (k q cq : Nat) (S M : List Int), k ≤ n ∧ i = .int .i64 k ∧ m = .slice (some ⟨q, 0, none⟩) M.length cq ∧ Hid (runO L U ((dueU U D).take k) = (S, M)) ∧ Own encI 1 3 (w.heap.size + 1) wr (.slice (some ⟨g, 0, none⟩) L.length cap) S ∧ Own encI 1 3 (w.heap.size + 1) wr (.slice (some ⟨q, 0, none⟩) M.length cq) M ∧ Own encI 1 3 (w.heap.size + 1) wr (.slice (some ⟨go, 0, none⟩) n cap2) (toI (dueU U D)) ∧ g ≠ q ∧ go ≠ q ∧ Below (w.heap.size + 1) (w.alloc (.cells #[.slice A1 U.length c1] 42)) wr) (fun i _ _ => n - (intOf i).toNat)
          case atStart => exact ⟨0, _, _, _, [], Nat.zero_le _, rfl, rfl, hide rfl, hos5, hom5, ho5, Ne.symm hne2, Ne.symm hne4, B5⟩
          case round =>
            clear hos5 hom5 ho5 B5
            obtain ⟨k, q, cq, S, M, hk, rfl, rfl, hrun, hos, hom, hoo, hgq, hgoq, hbel⟩ := hrel
            have hwb := hbb.trans (hbel.mono (Nat.le_succ _))
            have zr := hbel.cell (p := ⟨w.heap.size, 0, none⟩) (Nat.lt_succ_self _)
            rw [zb] at zr
            obtain ⟨f1, f2, f3⟩ := run_t H.out hrun.out
            by_cases hlt : k < n
            · have hki : (k : Int) < (n : Int) := by omega
              obtain ⟨i, hi⟩ : ∃ i, (dueU U D)[k]? = some i := ⟨_, List.getElem?_eq_getElem (by omega)⟩
              have hiU := due_lt (List.mem_of_getElem? hi)
              have yo := own_int hoo (by rw [toI_len, hn]) (toI_at hi)
              obtain ⟨bu, ou, rfl, _, hcu⟩ := Use.rd_at r1 (by intro h; subst h; simp at hiU)
              have hgi := List.getElem?_eq_getElem hiU
              obtain ⟨u0, u1, u2⟩ := hcu i _ hgi
              obtain ⟨⟨kk, hkk, hkl⟩, ⟨d0, d9⟩, n0, n9⟩ := uses_at H.out hgi
              generalize U[i] = u at *
              replace u0 := below_cell hwb u0; replace u2 := below_cell hwb u2
              obtain ⟨x, hx⟩ : ∃ x, S[kk]? = some x := ⟨_, List.getElem?_eq_getElem (by omega)⟩
              obtain ⟨x0, x9⟩ := f2 x (List.mem_of_getElem? hx)
              have hii : (i : Int) < (U.length : Int) := by omega
              have hkki : (kk : Int) < (L.length : Int) := by omega
              have yx := own_int hos f1 hx
              have HST := hide (run_step (L := L) hi)
              have HKK := hide hkk; have HGI := hide hgi; have HX := hide hx; have F1 := hide f1
              clear hkk hi hgi hx f1 f2 hcu u1
              have hws := hbel.size
              have hws2 : w.heap.size + 1 ≤ wr.heap.size := by simpa using hws
              by_cases hle : u.count ≤ x
              · have hd : decide (u.count ≤ x) = true := decide_eq_true hle
                have HR := hide (show runO L U ((dueU U D).take (k + 1)) = (S.set kk (x - u.count), M) by rw [HST.out]; exact runS_yes hrun.out HGI.out HKK.out HX.out hle)
                go_wp2_with (go_at_call 61; refine (partOf_is HKK.out _ _ _ (r0.later hwb) l0).mono ?_; rintro e w6 ⟨rfl, hb6⟩; have a0 := after_cell (below_cell hb6 yx); have a1 := after_cell (below_cell hb6 zr); have a2 := after_cell (below_cell hb6 u2))
                refine wp_region_after (by kernel_rfl) (by kernel_rfl) ?_
                repeat (go_big_quiet_step (fail))
                refine wpQuiet_nil ?_
                rintro W3 ⟨⟨_, hb7⟩, rfl⟩
                clear a0 a1 a2
                have hb3 := below_step hb6 hb7 (Nat.le_refl _)
                have B3 := below_step hbel hb3 (by simp)
                have hos3 := Own.below hos hb3; have hom3 := Own.below hom hb3; have hoo3 := Own.below hoo hb3
                have yx3 := below_cell hb3 yx; have z3 := below_cell hb3 zr; have u3 := below_cell hb3 u2
                have hfz := own_int_frozen hos3 F1.out kk
                have hset := hide (own_int_set hos3 F1.out hkl (x - u.count))
                have hm3 := hide (set_keep (k := kk) (u := .int .i64 (x - u.count)) hom3 (Ne.symm hgq))
                have hp3 := hide (set_keep (k := kk) (u := .int .i64 (x - u.count)) hoo3 (Ne.symm hne3))
                have hgw := own_geq hos3
                have hw5 : IntKind.i64.wrap (x - u.count) = x - u.count := by rw [IntKind.wrap_i64]; omega
                have HB3 := hide B3
                clear hos hom hoo hos3 hom3 hoo3 yx yo zr u0 u2 hb6 hb7 hb3 B3
                go_wp2_with fail
                refine wp_region_tail 11 (by kernel_rfl) (by kernel_rfl) ?_
                simp only [List.take_succ_cons, List.take_zero, List.drop_succ_cons, List.drop_zero]
                repeat (first | still_step)
                refine wpStill_nil ?_
                go_wp2_with fail
                go_roundw
                case rel => exact ⟨k + 1, q, cq, _, M, by omega, by go_num, rfl, HR, by first | exact hset.out | (rw [hw5]; exact hset.out), by first | exact hm3.out | (rw [hw5]; exact hm3.out), by first | exact hp3.out | (rw [hw5]; exact hp3.out), hgq, hgoq, by first | exact (HB3.out.setCell (p := ⟨g, kk, none⟩) hgw _).drew | exact HB3.out.setCell (p := ⟨g, kk, none⟩) hgw _⟩
                case measure => simp [intOf] <;> omega
              · have hd : decide (u.count ≤ x) = false := decide_eq_false hle
                have HR := hide (show runO L U ((dueU U D).take (k + 1)) = (S, M ++ [(i : Int)]) by rw [HST.out]; exact runS_no hrun.out HGI.out HKK.out HX.out hle)
                go_wp2_with (go_at_call 61; refine (partOf_is HKK.out _ _ _ (r0.later hwb) l0).mono ?_; rintro e w6 ⟨rfl, hb6⟩; have a0 := after_cell (below_cell hb6 yx); have a1 := after_cell (below_cell hb6 zr); have a2 := after_cell (below_cell hb6 u2))
                refine wp_region_after (by kernel_rfl) (by kernel_rfl) ?_
                repeat (go_big_quiet_step (fail))
                refine wpQuiet_nil ?_
                rintro W3 ⟨⟨_, hb7⟩, rfl⟩
                clear a0 a1 a2
                have hb3 := below_step hb6 hb7 (Nat.le_refl _)
                have B3 := below_step hbel hb3 (by simp)
                have hos3 := Own.below hos hb3; have hom3 := Own.below hom hb3; have hoo3 := Own.below hoo hb3
                have hs3 : w.heap.size + 1 ≤ W3.heap.size := by have := hb3.size; omega
                clear hos hom hoo yx yo zr u0 u2
                go_wp2_with (at_builtin; refine wpList_push2 _ rfl (.tmp 86) (.tmp 88) 33 3 rfl Try.underlying33 infoI rfl (by omega) (by omega) encI_len encI_one (w.heap.size + 1) _ cq M (i : Int) _ rfl rfl _ rfl (by first | rfl | simp) hom3 (by omega) (by omega) ?_; intro q5 cap5 w5 ho5 hb5 hg5 hq5)
                go_roundw
                case rel => exact ⟨k + 1, q5, cap5, S, _, by omega, by go_num, sl_eq (by simp), HR, push_keep hos3 hg5 hgq, by rw [List.length_append]; exact ho5, push_keep hoo3 hg5 hgoq, push_ne hos3 hq5 hgq, push_ne hoo3 hq5 hgoq, B3.trans hb5⟩
                case measure => simp [intOf] <;> omega
            · obtain rfl : k = n := by omega
              have HR := hide (show runL L U D = (S, M) by rw [runL, ← hrun.out, ← hn, List.take_length])
              obtain ⟨m, hm⟩ : ∃ m, M.length = m := ⟨_, rfl⟩
              rw [hm] at hom f3 ⊢
              have hgm := own_geq hom
              have hws := hbel.size
              have hws2 : w.heap.size + 1 ≤ wr.heap.size := by simpa using hws
              have HM := hide hm; clear hm
              go_wp2_with (go_at_call 86; refine (sort_ints M m HM.out (by omega) q cq _ _ hom).mono ?_; rintro e w7 ⟨rfl, ho7, hg7⟩)
              have hos7 := own_grown hos hg7 (.inl (by simpa [Value.ownBlock] using hgq))
              have B7 : Below (w.heap.size + 1) (w.alloc (.cells #[.slice A1 U.length c1] 42)) w7 := hbel.trans (below_moved hg7 hgm hws2)
              have hsm : (srtI M).length = m := by rw [(srtI_perm M).length_eq, HM.out]
              have HSM := hide hsm; clear hsm
              go_wp2_with fail
              go_ret2
              rw [missL, HR.out]
              exact ⟨g, cap, q, cq, by rw [HSM.out]; rfl, Own.mono_ hos7 (Nat.le_succ _), by rw [HSM.out]; exact Own.mono_ ho7 (Nat.le_succ _), hbb.trans (B7.mono (Nat.le_succ _))⟩
end Go.Proofs.Ytlphegjhkchglaa
