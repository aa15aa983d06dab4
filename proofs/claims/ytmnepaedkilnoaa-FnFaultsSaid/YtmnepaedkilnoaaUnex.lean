/- The events that stand in no first match: both packages. Slices are as the reader gives them. -/
import Derived.Test.YtmnepaedkilnoaaAsked
import Derived.Test.YtmnepaedkilnoaaPush
import Derived.Test.YtmnepaedkilnoaaLibInt
import Derived.Test.YtmnepaedkilnoaaSetC
namespace Go.Proofs.Ytmnepaedkilnoaa
open Go Go.RowKit
set_option linter.unusedVariables false
def hitP (R : List Event) (i : Int) (p : Pat) : Bool := (mFirst R p).any fun d => d == i
def hitC (R : List Event) (i : Int) (c : Pattern) : Bool := hitP R i c.toPat
def unexUp (R : List Event) (P : List Pat) (n : Nat) : List Int := ((List.range n).map fun i : Nat => (i : Int)).filter fun k => !(P.any (hitP R k))
def unexV (R : List Event) (P : List Pat) : List Int := if recB R && patsB P then unexUp R P R.length else []
theorem any_pats (R : List Event) (i : Int) (L : List Pattern) : (Pattern.pats L).any (hitP R i) = L.any (hitC R i) := by rw [Pattern.pats, List.any_map]; rfl
theorem unexUp_len (R : List Event) (P : List Pat) (n : Nat) : (unexUp R P n).length ≤ n := by
  have := List.length_filter_le (fun k => !(P.any (hitP R k))) ((List.range n).map fun i : Nat => (i : Int))
  simp only [List.length_map, List.length_range] at this
  exact this
theorem unexV_len (R : List Event) (P : List Pat) : (unexV R P).length ≤ 30 := by
  unfold unexV
  split
  · rename_i h
    simp only [Bool.and_eq_true] at h
    have := riseB_len h.1
    have := unexUp_len R P R.length
    omega
  · exact Nat.zero_le _
theorem unexUp_yes {R : List Event} {L : List Pattern} {n : Nat} (h : L.any (hitC R n) = false) : unexUp R (Pattern.pats L) (n + 1) = unexUp R (Pattern.pats L) n ++ [(n : Int)] := by
  rw [← any_pats] at h
  simp only [unexUp, List.range_succ, List.map_append, List.map_cons, List.map_nil, List.filter_append, List.filter_cons, List.filter_nil, h, Bool.not_false, if_true]
theorem unexUp_no {R : List Event} {L : List Pattern} {n : Nat} (h : L.any (hitC R n) = true) : unexUp R (Pattern.pats L) (n + 1) = unexUp R (Pattern.pats L) n := by
  rw [← any_pats] at h
  simp only [unexUp, List.range_succ, List.map_append, List.map_cons, List.map_nil, List.filter_append, List.filter_cons, List.filter_nil, h, Bool.not_true, Bool.false_eq_true, if_false, List.append_nil]
theorem any_take {L : List Pattern} {p : Pattern → Bool} {k : Nat} {c : Pattern} (hk : L[k]? = some c) : (L.take (k + 1)).any p = ((L.take k).any p || p c) := by
  obtain ⟨hlt, rfl⟩ := List.getElem?_eq_some_iff.1 hk
  rw [take_snocL L k hlt, List.any_append]; simp
def encB (b : Bool) : List Value := [.bool b]
theorem encB_len (b : Bool) : (encB b).length = 1 := rfl
theorem infoB : (Try.prog.info? 4).map (fun i => (i.zero, i.size, i.bytes)) = some (some (.bool false), 1, 1) := by kernel_rfl
theorem hmk_bool (n : Nat) (hn : n ≤ 1048576) (W : World) : (Instr.makeSlice 84 (.int .i64 (n : Int)) (.int .i64 (n : Int))).run Try.prog W = .ok (.slice (some ⟨W.heap.size, 0, none⟩) n n) (W.alloc (.cells (madeCells #[.bool false] n) 4)) := by
  obtain ⟨i0, hi, hz0, hz1, hz2⟩ := info_parts infoB
  have := run_make_rowN (P := Try.prog) 84 4 i0 _ Try.underlying84 hi hz0 .i64 .i64 n n (Nat.le_refl _) (by rw [hz2]; omega) (by omega) W
  rw [hz1, Nat.mul_one] at this
  exact this
theorem own_bool {T lo n cap g : Nat} {w : World} {M : List Bool} {k : Nat} {c : Bool} (h : Own encB 1 T lo w (.slice (some ⟨g, 0, none⟩) n cap) M) (hn : M.length = n) (hk : M[k]? = some c) : w.cell? ⟨g, k, none⟩ = some (.bool c) := by
  subst hn
  have := own_cell h (flat_get encB_len M k c hk 0 _ rfl)
  rwa [Nat.mul_one, Nat.add_zero] at this
theorem own_bool_set {T lo n cap g : Nat} {w : World} {M : List Bool} {k : Nat} (h : Own encB 1 T lo w (.slice (some ⟨g, 0, none⟩) n cap) M) (hn : M.length = n) (hk : k < n) (c : Bool) : Own encB 1 T lo (w.setCell ⟨g, k, none⟩ (.bool c)) (.slice (some ⟨g, 0, none⟩) n cap) (M.set k c) := by
  have := Own.set_ encB_len h hn (k := k) (by omega) c
  rwa [Nat.mul_one] at this
theorem own_falses {T lo n : Nat} {w : World} (hlo : lo ≤ w.heap.size) (hn : n ≤ maxLen) : Own encB 1 T lo (w.alloc (.cells (madeCells #[.bool false] n) T)) (.slice (some ⟨w.heap.size, 0, none⟩) n n) (List.replicate n false) := by
  have hx : (List.replicate n false).flatMap encB = List.replicate n (Value.bool false) := by
    induction n with
    | zero => rfl
    | succ m ih => rw [List.replicate_succ, List.flatMap_cons, ih (by omega), List.replicate_succ]; rfl
  have hl := World.ownsRow_lit (e := T) (size := 1) w (madeCells #[.bool false] n) n hlo hn (by rw [size_madeCells, Nat.mul_one])
  rw [toList_madeCells_one, ← hx] at hl
  unfold Own
  rw [List.length_replicate]
  exact hl
def metU (R : List Event) (L : List Pattern) : List Bool := (List.range R.length).map fun i : Nat => L.any (hitC R i)
theorem metU_len (R : List Event) (L : List Pattern) : (metU R L).length = R.length := by simp [metU]
theorem metU_nil (R : List Event) : metU R [] = List.replicate R.length false := by
  apply List.ext_getElem
  · simp [metU]
  · intro i h1 h2; simp [metU]
theorem metU_get {R : List Event} {L : List Pattern} {i : Nat} (h : i < R.length) : (metU R L)[i]? = some (L.any (hitC R i)) := by
  simp [metU, h]
def metJ (l : List Int) (M : List Bool) : List Bool := l.foldl (fun M d => M.set d.toNat true) M
theorem metJ_len (l : List Int) : ∀ M : List Bool, (metJ l M).length = M.length := by
  induction l with
  | nil => intro M; rfl
  | cons d l ih => intro M; rw [metJ, List.foldl_cons]; have := ih (M.set d.toNat true); rw [metJ] at this; rw [this, List.length_set]
theorem metJ_step {l : List Int} {M : List Bool} {j q : Nat} (h : l[j]? = some (q : Int)) : metJ (l.take (j + 1)) M = (metJ (l.take j) M).set q true := by
  obtain ⟨hlt, he⟩ := List.getElem?_eq_some_iff.1 h
  rw [take_snocL l j hlt, metJ, List.foldl_append, List.foldl_cons, List.foldl_nil, he, Int.toNat_natCast]
  rfl
theorem metJ_at (l : List Int) (i : Nat) : ∀ M : List Bool, (metJ l M)[i]? = (M[i]?).map fun b => b || l.any fun d => d.toNat == i := by
  induction l with
  | nil => intro M; simp [metJ]
  | cons d l ih =>
    intro M
    have := ih (M.set d.toNat true)
    rw [metJ] at this
    rw [metJ, List.foldl_cons, this, List.getElem?_set]
    by_cases hd : d.toNat = i
    · subst hd
      by_cases hl : d.toNat < M.length
      · simp [hl]
      · simp [hl]
    · have hd' : (d.toNat == i) = false := by simpa using hd
      simp [hd, hd']
theorem metJ_all {R : List Event} {L : List Pattern} {k : Nat} {c : Pattern} (hk : L[k]? = some c) : metJ (mFirst R c.toPat) (metU R (L.take k)) = metU R (L.take (k + 1)) := by
  apply List.ext_getElem?
  intro i
  rw [metJ_at]
  by_cases hi : i < R.length
  · rw [metU_get hi, metU_get hi, any_take hk, Option.map_some]
    congr 2
    rw [hitC, hitP, Bool.eq_iff_iff, List.any_eq_true, List.any_eq_true]
    constructor
    · rintro ⟨d, hd, he⟩
      obtain ⟨j, rfl, _, _⟩ := mFirst_places R c.toPat d hd
      exact ⟨_, hd, by simp only [Int.toNat_natCast, beq_iff_eq] at he ⊢; omega⟩
    · rintro ⟨d, hd, he⟩
      obtain ⟨j, rfl, _, _⟩ := mFirst_places R c.toPat d hd
      exact ⟨_, hd, by simp only [Int.toNat_natCast, beq_iff_eq] at he ⊢; omega⟩
  · rw [List.getElem?_eq_none (by rw [metU_len]; omega), List.getElem?_eq_none (by rw [metU_len]; omega)]
    rfl

set_option maxRecDepth 100000 in
set_option maxHeartbeats 4000000 in
theorem UnexplainedEvents_spec {L : List Pattern} {P : List Pat} (hPP : Pattern.pats L = P) (A0 A1 : Option Addr) (c0 c1 : Nat) (R : List Event) (w : World) (r0 : Rd Event.enc 2 w.heap.size w A0 R) (ok0 : ∀ c ∈ R, c.Ok) (l0 : R.length ≤ maxLen) (r1 : Rd Pattern.enc 3 w.heap.size w A1 L) (ok1 : ∀ c ∈ L, c.Ok) (l1 : L.length ≤ maxLen) (d1 : Pattern.DeepP w.heap.size w L) :
    Calls Try.prog 40 #[.slice A0 R.length c0, .slice A1 L.length c1] w (Gives (unexV R P).length (fun v => .tuple #[v, .bool (recB R && patsB P)]) (fun w' v => Own encI 1 3 w.heap.size w' v (unexV R P)) w) := by
  subst hPP
  have hba : Below w.heap.size w (w.alloc (.cells #[] 3)) := (Below.refl _ _).alloc (Nat.le_refl _) _
  have hown0 : Own encI 1 3 w.heap.size (w.alloc (.cells #[] 3)) (.slice (some ⟨w.heap.size, 0, none⟩) 0 0) [] := own_empty (Nat.le_refl _)
  cases hR : recB R
  · have HV := hide (show unexV R (Pattern.pats L) = [] by simp [unexV, hR])
    go_enter Try.func40, Try.ntmps40
    go_wp2_with (first | (go_at_call 54; refine (l20Record_is hR _ _ _ (r0.later hba) ok0 l0).mono ?_; rintro e w1 ⟨rfl, hb1⟩; have B1 := below_step hba hb1 (Nat.le_refl _)) | (go_at_call 59; refine (l20Patterns_is rfl hP _ _ _ (r1.later B1) ok1 l1 (d1.later B1)).mono ?_; rintro e w2 ⟨rfl, hb2⟩; have B2 := below_step B1 hb2 (Nat.le_refl _)))
    go_ret2
    rw [HV.out]
    exact ⟨some ⟨w.heap.size, 0, none⟩, 0, rfl, Own.below hown0 hb1, B1⟩
  · have HZ0 := True.intro
    cases hP : patsB (Pattern.pats L)
    · have HV := hide (show unexV R (Pattern.pats L) = [] by simp [unexV, hP])
      have HR := hide hR; clear hR
      go_enter Try.func40, Try.ntmps40
      go_wp2_with (first | (go_at_call 54; refine (l20Record_is HR.out _ _ _ (r0.later hba) ok0 l0).mono ?_; rintro e w1 ⟨rfl, hb1⟩; have B1 := below_step hba hb1 (Nat.le_refl _)) | (go_at_call 59; refine (l20Patterns_is rfl hP _ _ _ (r1.later B1) ok1 l1 (d1.later B1)).mono ?_; rintro e w2 ⟨rfl, hb2⟩; have B2 := below_step B1 hb2 (Nat.le_refl _)))
      go_ret2
      rw [HV.out]
      exact ⟨some ⟨w.heap.size, 0, none⟩, 0, rfl, Own.below (Own.below hown0 hb1) hb2, B2⟩
    · have HZ1 := True.intro
      have HV := hide (show unexV R (Pattern.pats L) = unexUp R (Pattern.pats L) R.length by simp [unexV, hR, hP])
      have hlen := riseB_len hP
      rw [Pattern.pats, List.length_map] at hlen
      have hlr := riseB_len hR
      have HPB := hide (fun (c : Pattern) (hc : c ∈ L) => show patB c.toPat = true from by obtain ⟨j, hj, rfl⟩ := List.mem_iff_getElem.1 hc; exact riseB_one hP j _ (by simp [Pattern.pats, List.getElem?_eq_getElem hj]))
      have HR := hide hR; have HP := hide hP; clear hR hP
      go_enter Try.func40, Try.ntmps40
      go_wp2_with (first | (go_at_call 54; refine (l20Record_is HR.out _ _ _ (r0.later hba) ok0 l0).mono ?_; rintro e w1 ⟨rfl, hb1⟩; have B1 := below_step hba hb1 (Nat.le_refl _)) | (go_at_call 59; refine (l20Patterns_is rfl HP.out _ _ _ (r1.later B1) ok1 l1 (d1.later B1)).mono ?_; rintro e w2 ⟨rfl, hb2⟩; have B2 := below_step B1 hb2 (Nat.le_refl _)))
      go_loopw [7, 6] (fun i m wr => ∃ (k : Nat) (A' : Option Addr) (cap' : Nat), k ≤ R.length ∧ i = .int .i64 k ∧ m = .slice A' (unexUp R (Pattern.pats L) k).length cap' ∧ Own encI 1 3 w.heap.size wr (.slice A' (unexUp R (Pattern.pats L) k).length cap') (unexUp R (Pattern.pats L) k) ∧ Below w.heap.size w wr) (fun i _ _ => R.length - (intOf i).toNat)
      case atStart => exact ⟨0, _, _, Nat.zero_le _, rfl, rfl, Own.below (Own.below hown0 hb1) hb2, B2⟩
      case round =>
        clear hown0
        obtain ⟨i, A', cap', hi, rfl, rfl, hown, hbel⟩ := hrel
        have hul := unexUp_len R (Pattern.pats L) i
        have HY := hide (@unexUp_yes R L i); have HN := hide (@unexUp_no R L i)
        by_cases hlt : i < R.length
        · generalize unexUp R (Pattern.pats L) i = U at *
          have hii : (i : Int) < (R.length : Int) := by omega
          obtain ⟨wo, rfl⟩ : ∃ wo : World, wo = wr := ⟨_, rfl⟩
          go_wp2_with fail
          go_loopw [9, 8] (fun x y wr => ∃ k : Nat, k ≤ L.length ∧ x = .int .i64 k ∧ y = .bool ((L.take k).any (hitC R i)) ∧ Below wo.heap.size wo wr) (fun x _ _ => L.length - (intOf x).toNat)
          case atStart => exact ⟨0, Nat.zero_le _, rfl, by simp, Below.refl _ _⟩
          case round =>
            obtain ⟨k, hk, rfl, rfl, hb5⟩ := hrel
            have BW := below_step hbel hb5 (Nat.le_refl _)
            by_cases hkl : k < L.length
            · obtain ⟨b, ob, rfl, hb, hc⟩ := Pattern.rd_at r1 (by intro h; subst h; simp at hkl)
              have hget := List.getElem?_eq_getElem hkl
              obtain ⟨x0, x1, x2⟩ := hc k _ hget
              have HPC := hide (HPB.out L[k] (List.getElem_mem hkl))
              have HDC := hide (d1 L[k] (List.getElem_mem hkl))
              have HT := hide (@any_take L (hitC R i) k _ hget)
              generalize L[k] = c at *
              clear hc hget
              replace x0 := below_cell BW x0
              replace x1 := below_cell BW x1
              replace x2 := below_cell BW x2
              have hki : (k : Int) < (L.length : Int) := by omega
              have hml : (mFirst R c.toPat).length ≤ 1000000 := by have := mFirst_len R c.toPat; have := (patB_bd HPC.out).2.1; omega
              cases ht : (L.take k).any (hitC R i)
              · have HK := hide (show (L.take (k + 1)).any (hitC R i) = hitC R i c by rw [HT.out, ht]; rfl)
                obtain ⟨h, hh⟩ : ∃ h, ((mFirst R c.toPat).any fun d => d == (i : Int)) = h := ⟨_, rfl⟩
                have HH := hide hh; have HK2 := hide (show hitC R i c = h from hh); clear hh
                go_wp2_with (first | (go_at_call 72; refine (l20First_p c.toPat c.ca c.cc R _ _ _ HR.out HPC.out (r0.later BW) (HDC.out.later BW)).mono ?_; intro e w6 hq; obtain ⟨A6, cap6, rfl, ho6, hb6⟩ := hq) | (go_at_call 74; refine (l1Has_is HH.out _ _ _ ((Own.rd_of encI_len ho6)) hml).mono ?_; rintro e w7 ⟨rfl, rfl⟩))
                go_roundw
                case rel => exact ⟨k + 1, by omega, by go_num, by rw [HK.out, HK2.out], below_step hb5 hb6 (Nat.le_refl _)⟩
                case measure => simp [intOf] <;> omega
              · have HK := hide (show (L.take (k + 1)).any (hitC R i) = true by rw [HT.out, ht]; rfl)
                go_wp2_with fail
                go_roundw
                case rel => exact ⟨k + 1, by omega, by go_num, by rw [HK.out], hb5⟩
                case measure => simp [intOf] <;> omega
            · obtain rfl : k = L.length := by omega
              rw [List.take_length]
              have hown5 := Own.below hown hb5
              have hwb := BW.size
              cases ht : L.any (hitC R i)
              · have HT := hide ht
                go_wp2_with (at_builtin; refine wpList_push _ rfl (.tmp 45) (.tmp 47) 45 3 rfl Try.underlying45 infoI rfl (by omega) (by omega) encI_len encI_one w.heap.size A' cap' U (i : Int) _ rfl rfl _ rfl rfl hown5 hwb (by omega) ?_; intro A8 cap8 w8 ho8 hb8)
                go_roundw
                case rel => exact ⟨i + 1, A8, cap8, by omega, by go_num, sl_eq (by rw [HY.out HT.out]; simp), by rw [HY.out HT.out, List.length_append]; exact ho8, BW.trans hb8⟩
                case measure => simp [intOf] <;> omega
              · have HT := hide ht
                go_wp2_with fail
                go_roundw
                case rel => exact ⟨i + 1, A', cap', by omega, by go_num, by rw [HN.out HT.out], by rw [HN.out HT.out]; exact hown5, BW⟩
                case measure => simp [intOf] <;> omega
        · obtain rfl : i = R.length := by omega
          go_wp2_with fail
          go_ret2
          rw [HV.out]
          exact ⟨A', cap', rfl, hown, hbel⟩
set_option maxRecDepth 100000 in
set_option maxHeartbeats 4000000 in
theorem UnexplainedEvents_any {L : List Pattern} {P : List Pat} (hPP : Pattern.pats L = P) (A0 A1 : Option Addr) (c0 c1 : Nat) (R : List Event) (w : World) (r0 : Rd Event.enc 2 w.heap.size w A0 R) (ok0 : ∀ c ∈ R, c.Ok) (l0 : R.length ≤ maxLen) (r1 : Rd Pattern.enc 3 w.heap.size w A1 L) (ok1 : ∀ c ∈ L, c.Ok) (l1 : L.length ≤ maxLen) (d1 : Pattern.DeepP w.heap.size w L) :
    Calls Try.prog 41 #[.slice A0 R.length c0, .slice A1 L.length c1] w (Gives (unexV R P).length (fun v => .tuple #[v, .bool (recB R && patsB P)]) (fun w' v => Own encI 1 3 w.heap.size w' v (unexV R P)) w) := by
  subst hPP
  cases hR : recB R
  · have HV := hide (show unexV R (Pattern.pats L) = [] by simp [unexV, hR])
    go_enter Try.func41, Try.ntmps41
    go_wp2_with (first | (go_at_call 17; refine (IsRecordOf_is hR _ _ _ r0 ok0 l0).mono ?_; rintro e w1 ⟨rfl, hb1⟩; have B1 := hb1) | (go_at_call 22; refine (ArePatterns_is rfl hP _ _ _ (r1.later B1) ok1 l1 (d1.later B1)).mono ?_; rintro e w2 ⟨rfl, hb2⟩; have B2 := below_step B1 hb2 (Nat.le_refl _)))
    go_ret2
    rw [HV.out]
    exact ⟨none, 0, rfl, own_nil _ _ _, B1⟩
  · have HZ0 := True.intro
    cases hP : patsB (Pattern.pats L)
    · have HV := hide (show unexV R (Pattern.pats L) = [] by simp [unexV, hP])
      have HR := hide hR; clear hR
      go_enter Try.func41, Try.ntmps41
      go_wp2_with (first | (go_at_call 17; refine (IsRecordOf_is HR.out _ _ _ r0 ok0 l0).mono ?_; rintro e w1 ⟨rfl, hb1⟩; have B1 := hb1) | (go_at_call 22; refine (ArePatterns_is rfl hP _ _ _ (r1.later B1) ok1 l1 (d1.later B1)).mono ?_; rintro e w2 ⟨rfl, hb2⟩; have B2 := below_step B1 hb2 (Nat.le_refl _)))
      go_ret2
      rw [HV.out]
      exact ⟨none, 0, rfl, own_nil _ _ _, B2⟩
    · have HZ1 := True.intro
      have HV := hide (show unexV R (Pattern.pats L) = unexUp R (Pattern.pats L) R.length by simp [unexV, hR, hP])
      have hlen := riseB_len hP
      rw [Pattern.pats, List.length_map] at hlen
      have hlr := riseB_len hR
      have hmk := hmk_bool R.length (by omega)
      have HPB := hide (fun (c : Pattern) (hc : c ∈ L) => show patB c.toPat = true from by obtain ⟨j, hj, rfl⟩ := List.mem_iff_getElem.1 hc; exact riseB_one hP j _ (by simp [Pattern.pats, List.getElem?_eq_getElem hj]))
      have HR := hide hR; have HP := hide hP; clear hR hP
      go_enter Try.func41, Try.ntmps41
      go_wp2_with (first | (go_at_call 17; refine (IsRecordOf_is HR.out _ _ _ r0 ok0 l0).mono ?_; rintro e w1 ⟨rfl, hb1⟩; have B1 := hb1) | (go_at_call 22; refine (ArePatterns_is rfl HP.out _ _ _ (r1.later B1) ok1 l1 (d1.later B1)).mono ?_; rintro e w2 ⟨rfl, hb2⟩; have B2 := below_step B1 hb2 (Nat.le_refl _)))
      have hws2 := B2.size
      have hm0 : Own encB 1 4 w.heap.size ((w2.alloc (.cells (madeCells #[.bool false] R.length) 4)).alloc (.cells #[] 3)) (.slice (some ⟨w2.heap.size, 0, none⟩) R.length R.length) (metU R []) := by rw [metU_nil]; exact World.ownsRow.alloc (own_falses hws2 (by unfold maxLen; omega)) _
      have ho0 : Own encI 1 3 (w2.heap.size + 1) ((w2.alloc (.cells (madeCells #[.bool false] R.length) 4)).alloc (.cells #[] 3)) (.slice (some ⟨w2.heap.size + 1, 0, none⟩) 0 0) [] := by
        have := own_empty (enc := encI) (sz := 1) (T := 3) (lo := w2.heap.size + 1) (w := w2.alloc (.cells (madeCells #[.bool false] R.length) 4)) (by simp)
        simpa using this
      have hb0 : Below w.heap.size w ((w2.alloc (.cells (madeCells #[.bool false] R.length) 4)).alloc (.cells #[] 3)) := (B2.alloc hws2 _).alloc (by simp; omega) _
      go_loopw [28] (fun i wr => ∃ k : Nat, k ≤ L.length ∧ i = .int .i64 k ∧ Own encB 1 4 w.heap.size wr (.slice (some ⟨w2.heap.size, 0, none⟩) R.length R.length) (metU R (L.take k)) ∧ Own encI 1 3 (w2.heap.size + 1) wr (.slice (some ⟨w2.heap.size + 1, 0, none⟩) 0 0) [] ∧ Below w.heap.size w wr ∧ w2.heap.size + 1 ≤ wr.heap.size) (fun i _ => L.length - (intOf i).toNat)
      case atStart => exact ⟨0, Nat.zero_le _, rfl, hm0, ho0, hb0, by simp⟩
      case round =>
        clear hm0 ho0 hb0 hmk
        obtain ⟨k, hk, rfl, hown, hout, hbel, hw1⟩ := hrel
        by_cases hkl : k < L.length
        · obtain ⟨b, o, rfl, hb, hc⟩ := Pattern.rd_at r1 (by intro h; subst h; simp at hkl)
          have hget := List.getElem?_eq_getElem hkl
          obtain ⟨x0, x1, x2⟩ := hc k _ hget
          have HPC := hide (HPB.out L[k] (List.getElem_mem hkl))
          have HDC := hide (d1 L[k] (List.getElem_mem hkl))
          have HT := hide (@metJ_all R L k _ hget)
          generalize L[k] = c at *
          clear hc hget
          replace x0 := below_cell hbel x0
          replace x1 := below_cell hbel x1
          replace x2 := below_cell hbel x2
          have hki : (k : Int) < (L.length : Int) := by omega
          have hml : (mFirst R c.toPat).length ≤ 1000000 := by have := mFirst_len R c.toPat; have := (patB_bd HPC.out).2.1; omega
          have HPL := hide (mFirst_places R c.toPat)
          have hMl := metU_len R (L.take k)
          generalize metU R (L.take k) = M at *
          have hout1 : Own encI 1 3 (w2.heap.size + 1) (wr.alloc (.cells #[.int .i64 c.fault, .slice c.ca c.codes.length c.cc, .int .i64 c.within] 62)) (.slice (some ⟨w2.heap.size + 1, 0, none⟩) 0 0) [] := World.ownsRow.alloc hout _
          have hown1 : Own encB 1 4 w.heap.size (wr.alloc (.cells #[.int .i64 c.fault, .slice c.ca c.codes.length c.cc, .int .i64 c.within] 62)) (.slice (some ⟨w2.heap.size, 0, none⟩) R.length R.length) M := World.ownsRow.alloc hown _
          have B3 : Below w.heap.size w (wr.alloc (.cells #[.int .i64 c.fault, .slice c.ca c.codes.length c.cc, .int .i64 c.within] 62)) := hbel.alloc hbel.size _
          have R3 := hide (r0.later B3); have D3 := hide (HDC.out.later B3)
          obtain ⟨z0, _⟩ := CF.new wr #[.int .i64 c.fault, .slice c.ca c.codes.length c.cc, .int .i64 c.within] 62 wr.heap.size 0 _ rfl rfl
          go_wp2_with (go_at_call 73; refine (firstMatch_p c.toPat c.ca c.cc R _ _ _ HR.out HPC.out R3.out D3.out).mono ?_; intro e w6 hq; obtain ⟨A6, cap6, rfl, ho6, -, -, hb6⟩ := hq)
          have hm6 := Own.below hown1 hb6; have hu6 := Own.below hout1 hb6; have B6 := below_step B3 hb6 (Nat.le_refl _)
          have hs6 := hb6.size
          simp only [World.size_alloc] at ho6 hs6
          go_loopw [36] (fun x wv => ∃ j : Nat, j ≤ (mFirst R c.toPat).length ∧ x = .int .i64 j ∧ Own encB 1 4 w.heap.size wv (.slice (some ⟨w2.heap.size, 0, none⟩) R.length R.length) (metJ ((mFirst R c.toPat).take j) M) ∧ Own encI 1 3 (w2.heap.size + 1) wv (.slice (some ⟨w2.heap.size + 1, 0, none⟩) 0 0) [] ∧ Own encI 1 3 (wr.heap.size + 1) wv (.slice A6 (mFirst R c.toPat).length cap6) (mFirst R c.toPat) ∧ Below w.heap.size w wv ∧ w2.heap.size + 1 ≤ wv.heap.size) (fun x _ => (mFirst R c.toPat).length - (intOf x).toNat)
          case atStart => exact ⟨0, Nat.zero_le _, rfl, hm6, hu6, ho6, B6, by omega⟩
          case round =>
            clear hm6 hu6 ho6 B6 hown1 hout1 hown hout
            obtain ⟨j, hj, rfl, hm7, hu7, ho7, B7, hs7⟩ := hrel
            by_cases hjl : j < (mFirst R c.toPat).length
            · have hgj := List.getElem?_eq_getElem hjl
              obtain ⟨q, hq0, _, hql⟩ := HPL.out _ (List.getElem_mem hjl)
              rw [hq0] at hgj
              have HS := hide (@metJ_step _ M _ _ hgj)
              obtain ⟨b6, o6, rfl, _, hc6⟩ := rd_int (Own.rd_of encI_len ho7) (by intro h; rw [h] at hjl; simp at hjl)
              have y0 := hc6 j _ hgj
              have hJl : (metJ ((mFirst R c.toPat).take j) M).length = R.length := by rw [metJ_len, hMl]
              generalize metJ ((mFirst R c.toPat).take j) M = J at *
              have y1 := own_bool hm7 hJl (List.getElem?_eq_getElem (show q < J.length by omega))
              have hfr := Own.frozen_ hm7 hJl q
              generalize J[q]'(by omega) = bq at *
              clear hq0 hgj hc6 HPL
              generalize mFirst R c.toPat = ml at *
              have hjj : (j : Int) < (ml.length : Int) := by omega
              have hqq : (q : Int) < (R.length : Int) := by omega
              go_wp2_with fail
              go_roundw
              case rel => exact ⟨j + 1, by omega, by go_num, by rw [HS.out]; exact own_bool_set hm7 hJl hql true, ownsRow_setCell_below hu7 (by simp) _, ownsRow_setCell_below ho7 (by simp; omega) _, B7.setCell hws2 _, by simpa using hs7⟩
              case measure => simp [intOf] <;> omega
            · obtain rfl : j = (mFirst R c.toPat).length := by omega
              rw [List.take_length, HT.out] at hm7
              go_wp2_with fail
              go_roundw
              case rel => exact ⟨k + 1, by omega, by go_num, hm7, hu7, B7, hs7⟩
              case measure => simp [intOf] <;> omega
        · obtain rfl : k = L.length := by omega
          rw [List.take_length] at hown
          go_wp2_with fail
          obtain ⟨wo, rfl⟩ : ∃ wo : World, wo = wr := ⟨_, rfl⟩
          go_loopw [47, 7] (fun i m wv => ∃ (k : Nat) (A' : Option Addr) (cap' : Nat), k ≤ R.length ∧ i = .int .i64 k ∧ m = .slice A' (unexUp R (Pattern.pats L) k).length cap' ∧ Own encI 1 3 (w2.heap.size + 1) wv (.slice A' (unexUp R (Pattern.pats L) k).length cap') (unexUp R (Pattern.pats L) k) ∧ Below (w2.heap.size + 1) wo wv) (fun i _ _ => R.length - (intOf i).toNat)
          case atStart => exact ⟨0, _, _, Nat.zero_le _, rfl, rfl, hout, Below.refl _ _⟩
          case round =>
            obtain ⟨i, A', cap', hi, rfl, rfl, hu, hbl⟩ := hrel
            have hul := unexUp_len R (Pattern.pats L) i
            have HY := hide (@unexUp_yes R L i); have HN := hide (@unexUp_no R L i)
            have hbs := hbl.size
            by_cases hlt : i < R.length
            · generalize unexUp R (Pattern.pats L) i = U at *
              have hii : (i : Int) < (R.length : Int) := by omega
              have y0 := (hbl.cell (p := ⟨w2.heap.size, i, none⟩) (by simp)).trans (own_bool hown (metU_len R L) (metU_get hlt))
              cases ht : L.any (hitC R i)
              · rw [ht] at y0
                have HT := hide ht; clear ht
                have hsz : w2.heap.size + 1 ≤ wr.heap.size := by omega
                go_wp2_with (at_builtin; refine wpList_push _ rfl (.tmp 54) (.tmp 56) 45 3 rfl Try.underlying45 infoI rfl (by omega) (by omega) encI_len encI_one (w2.heap.size + 1) A' cap' U (i : Int) _ rfl rfl _ rfl rfl hu hsz (by omega) ?_; intro A8 cap8 w8 ho8 hb8)
                go_roundw
                case rel => exact ⟨i + 1, A8, cap8, by omega, by go_num, sl_eq (by rw [HY.out HT.out]; simp), by rw [HY.out HT.out, List.length_append]; exact ho8, hbl.trans hb8⟩
                case measure => simp [intOf] <;> omega
              · rw [ht] at y0
                have HT := hide ht; clear ht
                go_wp2_with fail
                go_roundw
                case rel => exact ⟨i + 1, A', cap', by omega, by go_num, by rw [HN.out HT.out], by rw [HN.out HT.out]; exact hu, hbl⟩
                case measure => simp [intOf] <;> omega
            · obtain rfl : i = R.length := by omega
              go_wp2_with fail
              go_ret2
              rw [HV.out]
              exact ⟨A', cap', rfl, Own.mono_ hu (by omega), hbel.trans (hbl.mono (by omega))⟩
end Go.Proofs.Ytmnepaedkilnoaa
