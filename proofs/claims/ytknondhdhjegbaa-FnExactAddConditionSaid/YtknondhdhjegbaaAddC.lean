/- AddCondition: the reference's function. -/
import Derived.Test.YtknondhdhjegbaaAgain
import Derived.Test.YtknondhdhjegbaaPos
import Derived.Test.YtknondhdhjegbaaApp
import Derived.Deep.RegionHeldLaw
namespace Go.Proofs.Ytknondhdhjegbaa
open Go Go.RowKit
set_option linter.unusedVariables false
theorem own_none {α : Type} {enc : α → List Value} {sz : Nat} {T : TypeId} {lo nb : Nat} {w : World} (hnb : w.heap.size = nb) (hlo : lo ≤ nb) : Own enc sz T lo (w.alloc (.cells #[] T)) (.slice (some ⟨nb, 0, none⟩) 0 0) ([] : List α) := by
  subst hnb; exact own_empty hlo
theorem box_of {α : Type} (enc : α → List Value) (W : World) (c : α) (cs : Array Value) (hcs : cs.toList = enc c) (T : TypeId) (nb : Nat) (hnb : W.heap.size = nb) : ∀ j u, ([c].flatMap enc)[j]? = some u → (W.alloc (.cells cs T)).cell? ((⟨nb, 0, none⟩ : Addr).add j) = some u := by
  intro j u hu
  subst hnb
  rw [Addr.add_mid, Nat.zero_add, cell_of_row _ _ j _ T (0, 0) (heap_alloc_new W _), ← Array.getElem?_toList, hcs]
  have e : [c].flatMap enc = enc c := by simp
  rw [e] at hu
  exact hu
def lowC (s c : Condition) : Bool := decide (c.number < s.number)
def addCL (L : List Condition) (s : Condition) : List Condition := insL L (posOf (lowC s) L) s
def addCB (L : List Condition) (s : Condition) : Bool := goodC L && goodC (addCL L s)
def addCV (L : List Condition) (s : Condition) : List Condition := if addCB L s then addCL L s else []
theorem ins_ok {L : List Condition} (hok : ∀ c ∈ L, c.Ok) {s : Condition} (hs : s.Ok) (k : Nat) : ∀ x ∈ insL L k s, x.Ok := by
  intro x hx
  unfold insL at hx
  rcases List.mem_append.1 hx with h | h
  · exact hok x (List.mem_of_mem_take h)
  · rcases List.mem_cons.1 h with h | h
    · rw [h]; exact hs
    · exact hok x (List.mem_of_mem_drop h)
set_option maxRecDepth 100000 in
set_option maxHeartbeats 4000000 in
theorem AddCondition_spec (L : List Condition) (s : Condition) (A : Option Addr) (cap : Nat) (w : World) (hr : Rd Condition.enc 5 w.heap.size w A L) (hok : ∀ c ∈ L, c.Ok) (hs : s.Ok) (hl : L.length ≤ maxLen) (hnil : A = none → cap = 0) (hcap : L.length ≤ cap) :
    Calls Try.prog 41 #[.slice A L.length cap, .agg #[.int .i64 s.number, .string s.what, .int .i64 s.every, .int .i64 s.last, .int .i64 s.grade]] w (Gives (addCV L s).length (fun v => .tuple #[v, .bool (addCB L s)]) (fun w' v => Own Condition.enc 5 26 w.heap.size w' v (addCV L s)) w) := by
  have hba : Below w.heap.size w (w.alloc (.cells #[.int .i64 s.number, .string s.what, .int .i64 s.every, .int .i64 s.last, .int .i64 s.grade] 26)) := (Below.refl _ _).alloc (Nat.le_refl _) _
  have hno : addCB L s = false → addCV L s = [] := fun h => by simp [addCV, h]
  cases hp : goodC L
  · have HB := hide (show addCB L s = false by simp [addCB, hp])
    have HL := hide (hno HB.out)
    have HP := hide hp; clear hp hno
    go_enter Try.func41, Try.ntmps41
    go_wp2_with (go_at_call 52; refine (l24Good_n HP.out rfl _ _ _ (hr.later hba) hok hl).mono ?_; rintro e w1 ⟨rfl, hb1⟩)
    go_ret2
    rw [HL.out, HB.out]
    have BX := below_step hba hb1 (Nat.le_refl _)
    exact ⟨_, _, rfl, own_empty BX.size, below_step BX ((Below.refl _ _).alloc (Nat.le_refl _) _) (Nat.le_refl _)⟩
  · have HP := hide hp; clear hp
    have hlen := goodC_len HP.out
    go_enter Try.func41, Try.ntmps41
    go_wp2_with (go_at_call 52; refine (l24Good_n HP.out rfl _ _ _ (hr.later hba) hok hl).mono ?_; rintro e w1 ⟨rfl, hb1⟩)
    have B1 := below_step hba hb1 (Nat.le_refl _)
    have hbx : ∀ d : After w1, d.1.cell? ⟨w.heap.size, 0, none⟩ = some (.int .i64 s.number) ∧ d.1.cell? ⟨w.heap.size, 1, none⟩ = some (.string s.what) ∧ d.1.cell? ⟨w.heap.size, 2, none⟩ = some (.int .i64 s.every) ∧ d.1.cell? ⟨w.heap.size, 3, none⟩ = some (.int .i64 s.last) ∧ d.1.cell? ⟨w.heap.size, 4, none⟩ = some (.int .i64 s.grade) := fun d => Condition.box_after w s 26 ⟨d.1, below_step hb1 d.2 (Nat.le_refl _)⟩
    have HBX := hide hbx; clear hbx
    go_loopw [6] (fun i wr => ∃ k : Nat, k ≤ L.length ∧ i = .int .i64 k ∧ Hid (∀ (j : Nat) (c : Condition), j < k → L[j]? = some c → lowC s c = true) ∧ Below w1.heap.size w1 wr) (fun i _ => L.length - (intOf i).toNat)
    case atStart => exact ⟨0, Nat.zero_le _, rfl, hide (fun j c hj => absurd hj (Nat.not_lt_zero j)), Below.refl _ _⟩
    case round =>
      obtain ⟨k, hk, rfl, hlw, hbel⟩ := hrel
      have BW := below_step B1 hbel (Nat.le_refl _)
      have y0 := (HBX.out ⟨wr, hbel⟩).1
      have hend : ∀ w2, Below wr.heap.size wr w2 → (∀ c, L[k]? = some c → lowC s c = false) → posOf (lowC s) L = k ∧ Below w.heap.size w w2 := fun w2 h2 h3 => ⟨pos_is L k hk hlw.out h3, below_step BW h2 (Nat.le_refl _)⟩
      have HEND := hide hend; clear hend
      by_cases hlt : k < L.length
      · obtain ⟨b, o, rfl, hb, hc⟩ := Condition.rd_at hr (by intro h; subst h; simp at hlt)
        have hg := List.getElem?_eq_getElem hlt
        obtain ⟨x0, _⟩ := hc k _ hg
        replace x0 := below_cell BW x0
        generalize L[k] = c at *
        have a0 := after_cell x0; have a1 := after_cell y0
        have hki : (k : Int) < (L.length : Int) := by omega
        have HG := hide hg
        clear hc hg
        by_cases hlo : c.number < s.number
        · have hd : decide (c.number < s.number) = true := by simpa using hlo
          go_wp2_with fail
          refine wp_region_after (by kernel_rfl) (by kernel_rfl) ?_
          repeat (go_big_quiet_step (fail))
          refine wpQuiet_nil ?_
          rintro w2 ⟨⟨_, hb2⟩, rfl⟩
          clear a0 a1
          go_wp2_with fail
          go_roundw
          case rel => exact ⟨k + 1, by omega, by go_num, hide (fun j x hj hx => by
            rcases Nat.lt_or_eq_of_le (Nat.lt_succ_iff.1 hj) with h3 | h3
            · exact hlw.out j x h3 hx
            · subst h3; rw [HG.out] at hx; injection hx with hx; rw [← hx]; simpa [lowC] using hlo), below_step hbel hb2 (Nat.le_refl _)⟩
          case measure => simp [intOf] <;> omega
        · have hd : decide (c.number < s.number) = false := by simpa using hlo
          go_wp2_with fail
          refine wp_region_after (by kernel_rfl) (by kernel_rfl) ?_
          repeat (go_big_quiet_step (fail))
          refine wpQuiet_nil ?_
          rintro w2 ⟨⟨_, hb2⟩, rfl⟩
          clear a0 a1
          obtain ⟨hpos, B2⟩ := HEND.out w2 hb2 (fun x hx => by rw [HG.out] at hx; injection hx with hx; rw [← hx]; simpa [lowC] using hlo)
          have HPOS := hide hpos; clear hpos HEND
          obtain ⟨b', o', hA', hbw, hct, hcd⟩ := rd_part Condition.enc_len (hr.later B2) (by intro h; subst h; simp at hlt) k
          cases hA'
          have hke : ([] ++ L.take k ++ [s]) ++ L.drop k = insL L k s := by simp [insL]
          have hzl : (insL L k s).length = k + 1 + (L.length - k) := by simp [insL] <;> omega
          have HOI := hide (ins_ok hok hs k); have HKE := hide hke; have HZL := hide hzl; clear hke hzl
          have HAD := hide (show addCL L s = insL L k s by rw [addCL, HPOS.out])
          cases hq : goodC (insL L k s)
          · have HQ := hide hq; clear hq
            have HBV := hide (show addCB L s = false by rw [addCB, HP.out, HAD.out, HQ.out]; rfl)
            obtain ⟨z0, z1, z2, z3, z4⟩ := HBX.out ⟨w2, below_step hbel hb2 (Nat.le_refl _)⟩
            have hS : w.heap.size < w2.heap.size := World.block_lt_of_cell? _ _ z0
            have hkt : (L.take k).length = k := by rw [List.length_take]; omega
            have hkd : (L.drop k).length = L.length - k := by rw [List.length_drop]
            have hkc : k ≤ cap := by omega
            have hk0 : (0 : Int) ≤ (k : Int) := by omega
            have hkl : (k : Int) ≤ (L.length : Int) := by omega
            have hck : ¬ cap = k := by omega
            go_wp2_with fail
            have K0 : Below w2.heap.size w2 w2 := Below.refl _ _
            have HF := hide (fun (X : World) (hX : Below w2.heap.size w2 X) => show X.cell? ⟨w.heap.size, 0, none⟩ = some (.int .i64 s.number) ∧ X.cell? ⟨w.heap.size, 1, none⟩ = some (.string s.what) ∧ X.cell? ⟨w.heap.size, 2, none⟩ = some (.int .i64 s.every) ∧ X.cell? ⟨w.heap.size, 3, none⟩ = some (.int .i64 s.last) ∧ X.cell? ⟨w.heap.size, 4, none⟩ = some (.int .i64 s.grade) from ⟨(hX.cell hS).trans z0, (hX.cell hS).trans z1, (hX.cell hS).trans z2, (hX.cell hS).trans z3, (hX.cell hS).trans z4⟩)
            go_region_held_law (fun w' => w'.cell? ⟨w.heap.size, 0, none⟩ = some (.int .i64 s.number) ∧ w'.cell? ⟨w.heap.size, 1, none⟩ = some (.string s.what) ∧ w'.cell? ⟨w.heap.size, 2, none⟩ = some (.int .i64 s.every) ∧ w'.cell? ⟨w.heap.size, 3, none⟩ = some (.int .i64 s.last) ∧ w'.cell? ⟨w.heap.size, 4, none⟩ = some (.int .i64 s.grade)) (exact HF.out _ (by repeat (first | assumption | exact Below.refl _ _ | refine Below.drew ?_ | refine Below.alloc ?_ (by first | omega | (simp; done) | (simp; omega)) _)))
              (first
                | (refine step_app rfl (.tmp 28) (.tmp 31) 32 26 rfl Try.underlying32 Condition.infoE rfl (by omega) (by omega) Condition.enc_len Condition.enc_one w2.heap.size _ 0 [] (L.take k) (some ⟨b, o, none⟩) k cap 0 k rfl (by omega) rfl (by simp [Act.eval, Act.put]) hkt (fun ad had j u hu => by cases had; rw [Addr.add_mid]; exact ((show Below w2.heap.size w2 _ from by repeat (first | assumption | exact Below.refl _ _ | refine Below.drew ?_ | refine Below.alloc ?_ (by first | omega | (simp; done) | (simp; omega)) _)).cell hbw).trans (hct j u hu)) (fun h => by cases h) (by first | exact own_none (by first | rfl | simp) (by first | omega | simp) | exact World.ownsRow.alloc (own_none (by first | rfl | simp) (by first | omega | simp)) _) (by first | omega | (simp; done) | (simp; omega)) (by omega) ?_; intro Aa ca wa hoa hba hga; have KA : Below w2.heap.size w2 wa := (show Below w2.heap.size w2 _ from by repeat (first | assumption | exact Below.refl _ _ | refine Below.drew ?_ | refine Below.alloc ?_ (by first | omega | (simp; done) | (simp; omega)) _)).trans hba; have hKA : w2.heap.size ≤ wa.heap.size := KA.size)
                | (refine step_app rfl (.tmp 32) (.tmp 34) 32 26 rfl Try.underlying32 Condition.infoE rfl (by omega) (by omega) Condition.enc_len Condition.enc_one w2.heap.size _ ca ([] ++ L.take k) [s] (some ⟨_, 0, none⟩) 1 1 (k) (k + 1) (by rw [List.nil_append]; exact hkt) rfl rfl (by simp [Act.eval, Act.put] <;> rfl) rfl (fun ad had j u hu => by cases had; first | exact box_of _ wa s _ rfl _ _ (by first | rfl | simp) j u hu | exact (hga.cell_far _ (by first | (simp [Addr.add_mid]; done) | (simp [Addr.add_mid]; omega)) (by first | (simp [Addr.add_mid, Value.ownBlock]; done) | (simp [Addr.add_mid, Value.ownBlock]; omega))).trans (box_of _ (w2.alloc (.cells #[] 26)) s _ rfl _ _ (by first | rfl | simp) j u hu) | exact (hga.cell_far _ (by first | (simp [Addr.add_mid]; done) | (simp [Addr.add_mid]; omega)) (by first | (simp [Addr.add_mid, Value.ownBlock]; done) | (simp [Addr.add_mid, Value.ownBlock]; omega))).trans ((World.cell?_alloc_lt _ _ _ (by simp [Addr.add_mid])).trans (box_of _ w2 s _ rfl _ _ (by first | rfl | simp) j u hu))) (fun h => by cases h) (by first | exact hoa | exact World.ownsRow.alloc hoa _) (by first | omega | (simp; done) | (simp; omega)) (by omega) ?_; intro Ab cb wb hob hbb hgb; have KB : Below w2.heap.size w2 wb := (show Below w2.heap.size w2 _ from by repeat (first | assumption | exact Below.refl _ _ | refine Below.drew ?_ | refine Below.alloc ?_ (by first | omega | (simp; done) | (simp; omega)) _)).trans hbb; have hKB : w2.heap.size ≤ wb.heap.size := KB.size)
                | (refine step_app rfl (.tmp 35) (.tmp 38) 32 26 rfl Try.underlying32 Condition.infoE rfl (by omega) (by omega) Condition.enc_len Condition.enc_one w2.heap.size _ cb ([] ++ L.take k ++ [s]) (L.drop k) (some ⟨b, o + k * 5, none⟩) (L.length - k) (cap - k) (k + 1) (k + 1 + (L.length - k)) (by rw [List.length_append, List.nil_append, hkt]; rfl) (by omega) rfl (by simp [Act.eval, Act.put]) hkd (fun ad had j u hu => by cases had; rw [Addr.add_mid]; exact ((show Below w2.heap.size w2 _ from by repeat (first | assumption | exact Below.refl _ _ | refine Below.drew ?_ | refine Below.alloc ?_ (by first | omega | (simp; done) | (simp; omega)) _)).cell hbw).trans (hcd j u hu)) (fun h => by cases h) (by first | exact hob | exact World.ownsRow.alloc hob _) (by first | omega | (simp; done) | (simp; omega)) (by omega) ?_; intro Ac cc wc hoc hbc hgc; have KC : Below w2.heap.size w2 wc := (show Below w2.heap.size w2 _ from by repeat (first | assumption | exact Below.refl _ _ | refine Below.drew ?_ | refine Below.alloc ?_ (by first | omega | (simp; done) | (simp; omega)) _)).trans hbc))
            all_goals
              rw [HKE.out] at hoc
              have BX := below_step B2 KC (Nat.le_refl _)
              have ROC := Own.rd_of Condition.enc_len hoc
              go_wp2_with (go_at_call 52; refine (l24Good_n HQ.out HZL.out _ _ _ ROC HOI.out (by rw [HZL.out]; unfold maxLen; omega)).mono ?_; rintro e w5 ⟨rfl, hb5⟩)
              have BY := below_step BX hb5 (Nat.le_refl _)
              go_ret2
              rw [hno HBV.out, HBV.out]
              exact ⟨_, _, rfl, own_empty BY.size, below_step BY ((Below.refl _ _).alloc (Nat.le_refl _) _) (Nat.le_refl _)⟩
          · have HQ := hide hq; clear hq
            have HBV := hide (show addCB L s = true by rw [addCB, HP.out, HAD.out, HQ.out]; rfl)
            obtain ⟨z0, z1, z2, z3, z4⟩ := HBX.out ⟨w2, below_step hbel hb2 (Nat.le_refl _)⟩
            have hS : w.heap.size < w2.heap.size := World.block_lt_of_cell? _ _ z0
            have hkt : (L.take k).length = k := by rw [List.length_take]; omega
            have hkd : (L.drop k).length = L.length - k := by rw [List.length_drop]
            have hkc : k ≤ cap := by omega
            have hk0 : (0 : Int) ≤ (k : Int) := by omega
            have hkl : (k : Int) ≤ (L.length : Int) := by omega
            have hck : ¬ cap = k := by omega
            go_wp2_with fail
            have K0 : Below w2.heap.size w2 w2 := Below.refl _ _
            have HF := hide (fun (X : World) (hX : Below w2.heap.size w2 X) => show X.cell? ⟨w.heap.size, 0, none⟩ = some (.int .i64 s.number) ∧ X.cell? ⟨w.heap.size, 1, none⟩ = some (.string s.what) ∧ X.cell? ⟨w.heap.size, 2, none⟩ = some (.int .i64 s.every) ∧ X.cell? ⟨w.heap.size, 3, none⟩ = some (.int .i64 s.last) ∧ X.cell? ⟨w.heap.size, 4, none⟩ = some (.int .i64 s.grade) from ⟨(hX.cell hS).trans z0, (hX.cell hS).trans z1, (hX.cell hS).trans z2, (hX.cell hS).trans z3, (hX.cell hS).trans z4⟩)
            go_region_held_law (fun w' => w'.cell? ⟨w.heap.size, 0, none⟩ = some (.int .i64 s.number) ∧ w'.cell? ⟨w.heap.size, 1, none⟩ = some (.string s.what) ∧ w'.cell? ⟨w.heap.size, 2, none⟩ = some (.int .i64 s.every) ∧ w'.cell? ⟨w.heap.size, 3, none⟩ = some (.int .i64 s.last) ∧ w'.cell? ⟨w.heap.size, 4, none⟩ = some (.int .i64 s.grade)) (exact HF.out _ (by repeat (first | assumption | exact Below.refl _ _ | refine Below.drew ?_ | refine Below.alloc ?_ (by first | omega | (simp; done) | (simp; omega)) _)))
              (first
                | (refine step_app rfl (.tmp 28) (.tmp 31) 32 26 rfl Try.underlying32 Condition.infoE rfl (by omega) (by omega) Condition.enc_len Condition.enc_one w2.heap.size _ 0 [] (L.take k) (some ⟨b, o, none⟩) k cap 0 k rfl (by omega) rfl (by simp [Act.eval, Act.put]) hkt (fun ad had j u hu => by cases had; rw [Addr.add_mid]; exact ((show Below w2.heap.size w2 _ from by repeat (first | assumption | exact Below.refl _ _ | refine Below.drew ?_ | refine Below.alloc ?_ (by first | omega | (simp; done) | (simp; omega)) _)).cell hbw).trans (hct j u hu)) (fun h => by cases h) (by first | exact own_none (by first | rfl | simp) (by first | omega | simp) | exact World.ownsRow.alloc (own_none (by first | rfl | simp) (by first | omega | simp)) _) (by first | omega | (simp; done) | (simp; omega)) (by omega) ?_; intro Aa ca wa hoa hba hga; have KA : Below w2.heap.size w2 wa := (show Below w2.heap.size w2 _ from by repeat (first | assumption | exact Below.refl _ _ | refine Below.drew ?_ | refine Below.alloc ?_ (by first | omega | (simp; done) | (simp; omega)) _)).trans hba; have hKA : w2.heap.size ≤ wa.heap.size := KA.size)
                | (refine step_app rfl (.tmp 32) (.tmp 34) 32 26 rfl Try.underlying32 Condition.infoE rfl (by omega) (by omega) Condition.enc_len Condition.enc_one w2.heap.size _ ca ([] ++ L.take k) [s] (some ⟨_, 0, none⟩) 1 1 (k) (k + 1) (by rw [List.nil_append]; exact hkt) rfl rfl (by simp [Act.eval, Act.put] <;> rfl) rfl (fun ad had j u hu => by cases had; first | exact box_of _ wa s _ rfl _ _ (by first | rfl | simp) j u hu | exact (hga.cell_far _ (by first | (simp [Addr.add_mid]; done) | (simp [Addr.add_mid]; omega)) (by first | (simp [Addr.add_mid, Value.ownBlock]; done) | (simp [Addr.add_mid, Value.ownBlock]; omega))).trans (box_of _ (w2.alloc (.cells #[] 26)) s _ rfl _ _ (by first | rfl | simp) j u hu) | exact (hga.cell_far _ (by first | (simp [Addr.add_mid]; done) | (simp [Addr.add_mid]; omega)) (by first | (simp [Addr.add_mid, Value.ownBlock]; done) | (simp [Addr.add_mid, Value.ownBlock]; omega))).trans ((World.cell?_alloc_lt _ _ _ (by simp [Addr.add_mid])).trans (box_of _ w2 s _ rfl _ _ (by first | rfl | simp) j u hu))) (fun h => by cases h) (by first | exact hoa | exact World.ownsRow.alloc hoa _) (by first | omega | (simp; done) | (simp; omega)) (by omega) ?_; intro Ab cb wb hob hbb hgb; have KB : Below w2.heap.size w2 wb := (show Below w2.heap.size w2 _ from by repeat (first | assumption | exact Below.refl _ _ | refine Below.drew ?_ | refine Below.alloc ?_ (by first | omega | (simp; done) | (simp; omega)) _)).trans hbb; have hKB : w2.heap.size ≤ wb.heap.size := KB.size)
                | (refine step_app rfl (.tmp 35) (.tmp 38) 32 26 rfl Try.underlying32 Condition.infoE rfl (by omega) (by omega) Condition.enc_len Condition.enc_one w2.heap.size _ cb ([] ++ L.take k ++ [s]) (L.drop k) (some ⟨b, o + k * 5, none⟩) (L.length - k) (cap - k) (k + 1) (k + 1 + (L.length - k)) (by rw [List.length_append, List.nil_append, hkt]; rfl) (by omega) rfl (by simp [Act.eval, Act.put]) hkd (fun ad had j u hu => by cases had; rw [Addr.add_mid]; exact ((show Below w2.heap.size w2 _ from by repeat (first | assumption | exact Below.refl _ _ | refine Below.drew ?_ | refine Below.alloc ?_ (by first | omega | (simp; done) | (simp; omega)) _)).cell hbw).trans (hcd j u hu)) (fun h => by cases h) (by first | exact hob | exact World.ownsRow.alloc hob _) (by first | omega | (simp; done) | (simp; omega)) (by omega) ?_; intro Ac cc wc hoc hbc hgc; have KC : Below w2.heap.size w2 wc := (show Below w2.heap.size w2 _ from by repeat (first | assumption | exact Below.refl _ _ | refine Below.drew ?_ | refine Below.alloc ?_ (by first | omega | (simp; done) | (simp; omega)) _)).trans hbc))
            all_goals
              rw [HKE.out] at hoc
              have BX := below_step B2 KC (Nat.le_refl _)
              have ROC := Own.rd_of Condition.enc_len hoc
              go_wp2_with (go_at_call 52; refine (l24Good_n HQ.out HZL.out _ _ _ ROC HOI.out (by rw [HZL.out]; unfold maxLen; omega)).mono ?_; rintro e w5 ⟨rfl, hb5⟩)
              have BY := below_step BX hb5 (Nat.le_refl _)
              go_ret2
              have HL : addCV L s = insL L k s := by rw [addCV, if_pos HBV.out, HAD.out]
              rw [HL, HBV.out]
              exact ⟨_, _, by rw [HZL.out]; rfl, by rw [HZL.out]; exact Own.mono_ (Own.below hoc hb5) B2.size, BY⟩
      · have hkL : L.length ≤ k := by omega
        have hnk : ¬ (k : Int) < (L.length : Int) := by omega
        have hd : decide ((k : Int) < (L.length : Int)) = false := by simpa using hnk
        have hdn : decide (k < L.length) = false := by simpa using hlt
        go_wp2_with fail
        refine wp_region_after (by kernel_rfl) (by kernel_rfl) ?_
        repeat (go_big_quiet_step (fail))
        refine wpQuiet_nil ?_
        rintro w2 ⟨⟨_, hb2⟩, rfl⟩
        obtain ⟨hpos, B2⟩ := HEND.out w2 hb2 (fun x hx => by rw [List.getElem?_eq_none (by omega)] at hx; cases hx)
        have HPOS := hide hpos; clear hpos HEND hd hdn
        rcases A with _ | ad
        · have hL0 : L.length = 0 := rd_none hr rfl
          have hk00 : k = 0 := by omega
          have hc0 : cap = 0 := hnil rfl
          subst hc0 hk00
          have hdk : L.drop 0 = [] := by rw [List.drop_eq_nil_iff]; omega
          have hke : ([] ++ L.take 0 ++ [s]) ++ ([] : List Condition) = insL L 0 s := by unfold insL; rw [hdk]; simp
          have hzl : (insL L 0 s).length = 0 + 1 + 0 := by unfold insL; rw [hdk]; simp <;> omega
          clear hdk
          have HOI := hide (ins_ok hok hs 0); have HKE := hide hke; have HZL := hide hzl; clear hke hzl
          have HAD := hide (show addCL L s = insL L 0 s by rw [addCL, HPOS.out])
          cases hq : goodC (insL L 0 s)
          · have HQ := hide hq; clear hq
            have HBV := hide (show addCB L s = false by rw [addCB, HP.out, HAD.out, HQ.out]; rfl)
            obtain ⟨z0, z1, z2, z3, z4⟩ := HBX.out ⟨w2, below_step hbel hb2 (Nat.le_refl _)⟩
            have hS : w.heap.size < w2.heap.size := World.block_lt_of_cell? _ _ z0
            have hkt : (L.take 0).length = 0 := by rw [List.length_take]; omega
            go_wp2_with fail
            have K0 : Below w2.heap.size w2 w2 := Below.refl _ _
            have HF := hide (fun (X : World) (hX : Below w2.heap.size w2 X) => show X.cell? ⟨w.heap.size, 0, none⟩ = some (.int .i64 s.number) ∧ X.cell? ⟨w.heap.size, 1, none⟩ = some (.string s.what) ∧ X.cell? ⟨w.heap.size, 2, none⟩ = some (.int .i64 s.every) ∧ X.cell? ⟨w.heap.size, 3, none⟩ = some (.int .i64 s.last) ∧ X.cell? ⟨w.heap.size, 4, none⟩ = some (.int .i64 s.grade) from ⟨(hX.cell hS).trans z0, (hX.cell hS).trans z1, (hX.cell hS).trans z2, (hX.cell hS).trans z3, (hX.cell hS).trans z4⟩)
            go_region_held_law (fun w' => w'.cell? ⟨w.heap.size, 0, none⟩ = some (.int .i64 s.number) ∧ w'.cell? ⟨w.heap.size, 1, none⟩ = some (.string s.what) ∧ w'.cell? ⟨w.heap.size, 2, none⟩ = some (.int .i64 s.every) ∧ w'.cell? ⟨w.heap.size, 3, none⟩ = some (.int .i64 s.last) ∧ w'.cell? ⟨w.heap.size, 4, none⟩ = some (.int .i64 s.grade)) (exact HF.out _ (by repeat (first | assumption | exact Below.refl _ _ | refine Below.drew ?_ | refine Below.alloc ?_ (by first | omega | (simp; done) | (simp; omega)) _)))
              (first
                | (refine step_app rfl (.tmp 28) (.tmp 31) 32 26 rfl Try.underlying32 Condition.infoE rfl (by omega) (by omega) Condition.enc_len Condition.enc_one w2.heap.size _ 0 [] (L.take 0) none 0 0 0 0 rfl (by omega) rfl (by simp [Act.eval, Act.put]) hkt (fun ad had => by cases had) (fun _ => ⟨rfl, rfl⟩) (by first | exact own_none (by first | rfl | simp) (by first | omega | simp) | exact World.ownsRow.alloc (own_none (by first | rfl | simp) (by first | omega | simp)) _) (by first | omega | (simp; done) | (simp; omega)) (by omega) ?_; intro Aa ca wa hoa hba hga; have KA : Below w2.heap.size w2 wa := (show Below w2.heap.size w2 _ from by repeat (first | assumption | exact Below.refl _ _ | refine Below.drew ?_ | refine Below.alloc ?_ (by first | omega | (simp; done) | (simp; omega)) _)).trans hba; have hKA : w2.heap.size ≤ wa.heap.size := KA.size)
                | (refine step_app rfl (.tmp 32) (.tmp 34) 32 26 rfl Try.underlying32 Condition.infoE rfl (by omega) (by omega) Condition.enc_len Condition.enc_one w2.heap.size _ ca ([] ++ L.take 0) [s] (some ⟨_, 0, none⟩) 1 1 (0) (0 + 1) (by rw [List.nil_append]; exact hkt) rfl rfl (by simp [Act.eval, Act.put] <;> rfl) rfl (fun ad had j u hu => by cases had; first | exact box_of _ wa s _ rfl _ _ (by first | rfl | simp) j u hu | exact (hga.cell_far _ (by first | (simp [Addr.add_mid]; done) | (simp [Addr.add_mid]; omega)) (by first | (simp [Addr.add_mid, Value.ownBlock]; done) | (simp [Addr.add_mid, Value.ownBlock]; omega))).trans (box_of _ (w2.alloc (.cells #[] 26)) s _ rfl _ _ (by first | rfl | simp) j u hu) | exact (hga.cell_far _ (by first | (simp [Addr.add_mid]; done) | (simp [Addr.add_mid]; omega)) (by first | (simp [Addr.add_mid, Value.ownBlock]; done) | (simp [Addr.add_mid, Value.ownBlock]; omega))).trans ((World.cell?_alloc_lt _ _ _ (by simp [Addr.add_mid])).trans (box_of _ w2 s _ rfl _ _ (by first | rfl | simp) j u hu))) (fun h => by cases h) (by first | exact hoa | exact World.ownsRow.alloc hoa _) (by first | omega | (simp; done) | (simp; omega)) (by omega) ?_; intro Ab cb wb hob hbb hgb; have KB : Below w2.heap.size w2 wb := (show Below w2.heap.size w2 _ from by repeat (first | assumption | exact Below.refl _ _ | refine Below.drew ?_ | refine Below.alloc ?_ (by first | omega | (simp; done) | (simp; omega)) _)).trans hbb; have hKB : w2.heap.size ≤ wb.heap.size := KB.size)
                | (refine step_app rfl (.tmp 35) (.tmp 38) 32 26 rfl Try.underlying32 Condition.infoE rfl (by omega) (by omega) Condition.enc_len Condition.enc_one w2.heap.size _ cb ([] ++ L.take 0 ++ [s]) (([] : List Condition)) none 0 0 (0 + 1) (0 + 1 + 0) (by rw [List.length_append, List.nil_append, hkt]; rfl) (by omega) rfl (by simp [Act.eval, Act.put]) rfl (fun ad had => by cases had) (fun _ => ⟨rfl, rfl⟩) (by first | exact hob | exact World.ownsRow.alloc hob _) (by first | omega | (simp; done) | (simp; omega)) (by omega) ?_; intro Ac cc wc hoc hbc hgc; have KC : Below w2.heap.size w2 wc := (show Below w2.heap.size w2 _ from by repeat (first | assumption | exact Below.refl _ _ | refine Below.drew ?_ | refine Below.alloc ?_ (by first | omega | (simp; done) | (simp; omega)) _)).trans hbc))
            all_goals
              rw [HKE.out] at hoc
              have BX := below_step B2 KC (Nat.le_refl _)
              have ROC := Own.rd_of Condition.enc_len hoc
              go_wp2_with (go_at_call 52; refine (l24Good_n HQ.out HZL.out _ _ _ ROC HOI.out (by rw [HZL.out]; unfold maxLen; omega)).mono ?_; rintro e w5 ⟨rfl, hb5⟩)
              have BY := below_step BX hb5 (Nat.le_refl _)
              go_ret2
              rw [hno HBV.out, HBV.out]
              exact ⟨_, _, rfl, own_empty BY.size, below_step BY ((Below.refl _ _).alloc (Nat.le_refl _) _) (Nat.le_refl _)⟩
          · have HQ := hide hq; clear hq
            have HBV := hide (show addCB L s = true by rw [addCB, HP.out, HAD.out, HQ.out]; rfl)
            obtain ⟨z0, z1, z2, z3, z4⟩ := HBX.out ⟨w2, below_step hbel hb2 (Nat.le_refl _)⟩
            have hS : w.heap.size < w2.heap.size := World.block_lt_of_cell? _ _ z0
            have hkt : (L.take 0).length = 0 := by rw [List.length_take]; omega
            go_wp2_with fail
            have K0 : Below w2.heap.size w2 w2 := Below.refl _ _
            have HF := hide (fun (X : World) (hX : Below w2.heap.size w2 X) => show X.cell? ⟨w.heap.size, 0, none⟩ = some (.int .i64 s.number) ∧ X.cell? ⟨w.heap.size, 1, none⟩ = some (.string s.what) ∧ X.cell? ⟨w.heap.size, 2, none⟩ = some (.int .i64 s.every) ∧ X.cell? ⟨w.heap.size, 3, none⟩ = some (.int .i64 s.last) ∧ X.cell? ⟨w.heap.size, 4, none⟩ = some (.int .i64 s.grade) from ⟨(hX.cell hS).trans z0, (hX.cell hS).trans z1, (hX.cell hS).trans z2, (hX.cell hS).trans z3, (hX.cell hS).trans z4⟩)
            go_region_held_law (fun w' => w'.cell? ⟨w.heap.size, 0, none⟩ = some (.int .i64 s.number) ∧ w'.cell? ⟨w.heap.size, 1, none⟩ = some (.string s.what) ∧ w'.cell? ⟨w.heap.size, 2, none⟩ = some (.int .i64 s.every) ∧ w'.cell? ⟨w.heap.size, 3, none⟩ = some (.int .i64 s.last) ∧ w'.cell? ⟨w.heap.size, 4, none⟩ = some (.int .i64 s.grade)) (exact HF.out _ (by repeat (first | assumption | exact Below.refl _ _ | refine Below.drew ?_ | refine Below.alloc ?_ (by first | omega | (simp; done) | (simp; omega)) _)))
              (first
                | (refine step_app rfl (.tmp 28) (.tmp 31) 32 26 rfl Try.underlying32 Condition.infoE rfl (by omega) (by omega) Condition.enc_len Condition.enc_one w2.heap.size _ 0 [] (L.take 0) none 0 0 0 0 rfl (by omega) rfl (by simp [Act.eval, Act.put]) hkt (fun ad had => by cases had) (fun _ => ⟨rfl, rfl⟩) (by first | exact own_none (by first | rfl | simp) (by first | omega | simp) | exact World.ownsRow.alloc (own_none (by first | rfl | simp) (by first | omega | simp)) _) (by first | omega | (simp; done) | (simp; omega)) (by omega) ?_; intro Aa ca wa hoa hba hga; have KA : Below w2.heap.size w2 wa := (show Below w2.heap.size w2 _ from by repeat (first | assumption | exact Below.refl _ _ | refine Below.drew ?_ | refine Below.alloc ?_ (by first | omega | (simp; done) | (simp; omega)) _)).trans hba; have hKA : w2.heap.size ≤ wa.heap.size := KA.size)
                | (refine step_app rfl (.tmp 32) (.tmp 34) 32 26 rfl Try.underlying32 Condition.infoE rfl (by omega) (by omega) Condition.enc_len Condition.enc_one w2.heap.size _ ca ([] ++ L.take 0) [s] (some ⟨_, 0, none⟩) 1 1 (0) (0 + 1) (by rw [List.nil_append]; exact hkt) rfl rfl (by simp [Act.eval, Act.put] <;> rfl) rfl (fun ad had j u hu => by cases had; first | exact box_of _ wa s _ rfl _ _ (by first | rfl | simp) j u hu | exact (hga.cell_far _ (by first | (simp [Addr.add_mid]; done) | (simp [Addr.add_mid]; omega)) (by first | (simp [Addr.add_mid, Value.ownBlock]; done) | (simp [Addr.add_mid, Value.ownBlock]; omega))).trans (box_of _ (w2.alloc (.cells #[] 26)) s _ rfl _ _ (by first | rfl | simp) j u hu) | exact (hga.cell_far _ (by first | (simp [Addr.add_mid]; done) | (simp [Addr.add_mid]; omega)) (by first | (simp [Addr.add_mid, Value.ownBlock]; done) | (simp [Addr.add_mid, Value.ownBlock]; omega))).trans ((World.cell?_alloc_lt _ _ _ (by simp [Addr.add_mid])).trans (box_of _ w2 s _ rfl _ _ (by first | rfl | simp) j u hu))) (fun h => by cases h) (by first | exact hoa | exact World.ownsRow.alloc hoa _) (by first | omega | (simp; done) | (simp; omega)) (by omega) ?_; intro Ab cb wb hob hbb hgb; have KB : Below w2.heap.size w2 wb := (show Below w2.heap.size w2 _ from by repeat (first | assumption | exact Below.refl _ _ | refine Below.drew ?_ | refine Below.alloc ?_ (by first | omega | (simp; done) | (simp; omega)) _)).trans hbb; have hKB : w2.heap.size ≤ wb.heap.size := KB.size)
                | (refine step_app rfl (.tmp 35) (.tmp 38) 32 26 rfl Try.underlying32 Condition.infoE rfl (by omega) (by omega) Condition.enc_len Condition.enc_one w2.heap.size _ cb ([] ++ L.take 0 ++ [s]) (([] : List Condition)) none 0 0 (0 + 1) (0 + 1 + 0) (by rw [List.length_append, List.nil_append, hkt]; rfl) (by omega) rfl (by simp [Act.eval, Act.put]) rfl (fun ad had => by cases had) (fun _ => ⟨rfl, rfl⟩) (by first | exact hob | exact World.ownsRow.alloc hob _) (by first | omega | (simp; done) | (simp; omega)) (by omega) ?_; intro Ac cc wc hoc hbc hgc; have KC : Below w2.heap.size w2 wc := (show Below w2.heap.size w2 _ from by repeat (first | assumption | exact Below.refl _ _ | refine Below.drew ?_ | refine Below.alloc ?_ (by first | omega | (simp; done) | (simp; omega)) _)).trans hbc))
            all_goals
              rw [HKE.out] at hoc
              have BX := below_step B2 KC (Nat.le_refl _)
              have ROC := Own.rd_of Condition.enc_len hoc
              go_wp2_with (go_at_call 52; refine (l24Good_n HQ.out HZL.out _ _ _ ROC HOI.out (by rw [HZL.out]; unfold maxLen; omega)).mono ?_; rintro e w5 ⟨rfl, hb5⟩)
              have BY := below_step BX hb5 (Nat.le_refl _)
              go_ret2
              have HL : addCV L s = insL L 0 s := by rw [addCV, if_pos HBV.out, HAD.out]
              rw [HL, HBV.out]
              exact ⟨_, _, by rw [HZL.out]; rfl, by rw [HZL.out]; exact Own.mono_ (Own.below hoc hb5) B2.size, BY⟩
        · by_cases hL : L = []
          · have hL0 : L.length = 0 := by rw [hL]; rfl
            have hk00 : k = 0 := by omega
            subst hk00
            have HLN := hide hL; clear hL
            by_cases hck : cap = 0
            · subst hck
              have hdk : L.drop 0 = [] := by rw [List.drop_eq_nil_iff]; omega
              have hke : ([] ++ L.take 0 ++ [s]) ++ ([] : List Condition) = insL L 0 s := by unfold insL; rw [hdk]; simp
              have hzl : (insL L 0 s).length = 0 + 1 + 0 := by unfold insL; rw [hdk]; simp <;> omega
              clear hdk
              have HOI := hide (ins_ok hok hs 0); have HKE := hide hke; have HZL := hide hzl; clear hke hzl
              have HAD := hide (show addCL L s = insL L 0 s by rw [addCL, HPOS.out])
              cases hq : goodC (insL L 0 s)
              · have HQ := hide hq; clear hq
                have HBV := hide (show addCB L s = false by rw [addCB, HP.out, HAD.out, HQ.out]; rfl)
                obtain ⟨z0, z1, z2, z3, z4⟩ := HBX.out ⟨w2, below_step hbel hb2 (Nat.le_refl _)⟩
                have hS : w.heap.size < w2.heap.size := World.block_lt_of_cell? _ _ z0
                have hkt : (L.take 0).length = 0 := by rw [List.length_take]; omega
                go_wp2_with fail
                have K0 : Below w2.heap.size w2 w2 := Below.refl _ _
                have HF := hide (fun (X : World) (hX : Below w2.heap.size w2 X) => show X.cell? ⟨w.heap.size, 0, none⟩ = some (.int .i64 s.number) ∧ X.cell? ⟨w.heap.size, 1, none⟩ = some (.string s.what) ∧ X.cell? ⟨w.heap.size, 2, none⟩ = some (.int .i64 s.every) ∧ X.cell? ⟨w.heap.size, 3, none⟩ = some (.int .i64 s.last) ∧ X.cell? ⟨w.heap.size, 4, none⟩ = some (.int .i64 s.grade) from ⟨(hX.cell hS).trans z0, (hX.cell hS).trans z1, (hX.cell hS).trans z2, (hX.cell hS).trans z3, (hX.cell hS).trans z4⟩)
                go_region_held_law (fun w' => w'.cell? ⟨w.heap.size, 0, none⟩ = some (.int .i64 s.number) ∧ w'.cell? ⟨w.heap.size, 1, none⟩ = some (.string s.what) ∧ w'.cell? ⟨w.heap.size, 2, none⟩ = some (.int .i64 s.every) ∧ w'.cell? ⟨w.heap.size, 3, none⟩ = some (.int .i64 s.last) ∧ w'.cell? ⟨w.heap.size, 4, none⟩ = some (.int .i64 s.grade)) (exact HF.out _ (by repeat (first | assumption | exact Below.refl _ _ | refine Below.drew ?_ | refine Below.alloc ?_ (by first | omega | (simp; done) | (simp; omega)) _)))
                  (first
                    | (refine step_app rfl (.tmp 28) (.tmp 31) 32 26 rfl Try.underlying32 Condition.infoE rfl (by omega) (by omega) Condition.enc_len Condition.enc_one w2.heap.size _ 0 [] (L.take 0) (some ad) 0 0 0 0 rfl (by omega) rfl (by simp [Act.eval, Act.put]) hkt (fun ad had j u hu => by simp at hu) (fun h => by cases h) (by first | exact own_none (by first | rfl | simp) (by first | omega | simp) | exact World.ownsRow.alloc (own_none (by first | rfl | simp) (by first | omega | simp)) _) (by first | omega | (simp; done) | (simp; omega)) (by omega) ?_; intro Aa ca wa hoa hba hga; have KA : Below w2.heap.size w2 wa := (show Below w2.heap.size w2 _ from by repeat (first | assumption | exact Below.refl _ _ | refine Below.drew ?_ | refine Below.alloc ?_ (by first | omega | (simp; done) | (simp; omega)) _)).trans hba; have hKA : w2.heap.size ≤ wa.heap.size := KA.size)
                    | (refine step_app rfl (.tmp 32) (.tmp 34) 32 26 rfl Try.underlying32 Condition.infoE rfl (by omega) (by omega) Condition.enc_len Condition.enc_one w2.heap.size _ ca ([] ++ L.take 0) [s] (some ⟨_, 0, none⟩) 1 1 (0) (0 + 1) (by rw [List.nil_append]; exact hkt) rfl rfl (by simp [Act.eval, Act.put] <;> rfl) rfl (fun ad had j u hu => by cases had; first | exact box_of _ wa s _ rfl _ _ (by first | rfl | simp) j u hu | exact (hga.cell_far _ (by first | (simp [Addr.add_mid]; done) | (simp [Addr.add_mid]; omega)) (by first | (simp [Addr.add_mid, Value.ownBlock]; done) | (simp [Addr.add_mid, Value.ownBlock]; omega))).trans (box_of _ (w2.alloc (.cells #[] 26)) s _ rfl _ _ (by first | rfl | simp) j u hu) | exact (hga.cell_far _ (by first | (simp [Addr.add_mid]; done) | (simp [Addr.add_mid]; omega)) (by first | (simp [Addr.add_mid, Value.ownBlock]; done) | (simp [Addr.add_mid, Value.ownBlock]; omega))).trans ((World.cell?_alloc_lt _ _ _ (by simp [Addr.add_mid])).trans (box_of _ w2 s _ rfl _ _ (by first | rfl | simp) j u hu))) (fun h => by cases h) (by first | exact hoa | exact World.ownsRow.alloc hoa _) (by first | omega | (simp; done) | (simp; omega)) (by omega) ?_; intro Ab cb wb hob hbb hgb; have KB : Below w2.heap.size w2 wb := (show Below w2.heap.size w2 _ from by repeat (first | assumption | exact Below.refl _ _ | refine Below.drew ?_ | refine Below.alloc ?_ (by first | omega | (simp; done) | (simp; omega)) _)).trans hbb; have hKB : w2.heap.size ≤ wb.heap.size := KB.size)
                    | (refine step_app rfl (.tmp 35) (.tmp 38) 32 26 rfl Try.underlying32 Condition.infoE rfl (by omega) (by omega) Condition.enc_len Condition.enc_one w2.heap.size _ cb ([] ++ L.take 0 ++ [s]) (([] : List Condition)) (some ad) 0 0 (0 + 1) (0 + 1 + 0) (by rw [List.length_append, List.nil_append, hkt]; rfl) (by omega) rfl (by simp [Act.eval, Act.put]) rfl (fun ad had j u hu => by simp at hu) (fun h => by cases h) (by first | exact hob | exact World.ownsRow.alloc hob _) (by first | omega | (simp; done) | (simp; omega)) (by omega) ?_; intro Ac cc wc hoc hbc hgc; have KC : Below w2.heap.size w2 wc := (show Below w2.heap.size w2 _ from by repeat (first | assumption | exact Below.refl _ _ | refine Below.drew ?_ | refine Below.alloc ?_ (by first | omega | (simp; done) | (simp; omega)) _)).trans hbc))
                all_goals
                  rw [HKE.out] at hoc
                  have BX := below_step B2 KC (Nat.le_refl _)
                  have ROC := Own.rd_of Condition.enc_len hoc
                  go_wp2_with (go_at_call 52; refine (l24Good_n HQ.out HZL.out _ _ _ ROC HOI.out (by rw [HZL.out]; unfold maxLen; omega)).mono ?_; rintro e w5 ⟨rfl, hb5⟩)
                  have BY := below_step BX hb5 (Nat.le_refl _)
                  go_ret2
                  rw [hno HBV.out, HBV.out]
                  exact ⟨_, _, rfl, own_empty BY.size, below_step BY ((Below.refl _ _).alloc (Nat.le_refl _) _) (Nat.le_refl _)⟩
              · have HQ := hide hq; clear hq
                have HBV := hide (show addCB L s = true by rw [addCB, HP.out, HAD.out, HQ.out]; rfl)
                obtain ⟨z0, z1, z2, z3, z4⟩ := HBX.out ⟨w2, below_step hbel hb2 (Nat.le_refl _)⟩
                have hS : w.heap.size < w2.heap.size := World.block_lt_of_cell? _ _ z0
                have hkt : (L.take 0).length = 0 := by rw [List.length_take]; omega
                go_wp2_with fail
                have K0 : Below w2.heap.size w2 w2 := Below.refl _ _
                have HF := hide (fun (X : World) (hX : Below w2.heap.size w2 X) => show X.cell? ⟨w.heap.size, 0, none⟩ = some (.int .i64 s.number) ∧ X.cell? ⟨w.heap.size, 1, none⟩ = some (.string s.what) ∧ X.cell? ⟨w.heap.size, 2, none⟩ = some (.int .i64 s.every) ∧ X.cell? ⟨w.heap.size, 3, none⟩ = some (.int .i64 s.last) ∧ X.cell? ⟨w.heap.size, 4, none⟩ = some (.int .i64 s.grade) from ⟨(hX.cell hS).trans z0, (hX.cell hS).trans z1, (hX.cell hS).trans z2, (hX.cell hS).trans z3, (hX.cell hS).trans z4⟩)
                go_region_held_law (fun w' => w'.cell? ⟨w.heap.size, 0, none⟩ = some (.int .i64 s.number) ∧ w'.cell? ⟨w.heap.size, 1, none⟩ = some (.string s.what) ∧ w'.cell? ⟨w.heap.size, 2, none⟩ = some (.int .i64 s.every) ∧ w'.cell? ⟨w.heap.size, 3, none⟩ = some (.int .i64 s.last) ∧ w'.cell? ⟨w.heap.size, 4, none⟩ = some (.int .i64 s.grade)) (exact HF.out _ (by repeat (first | assumption | exact Below.refl _ _ | refine Below.drew ?_ | refine Below.alloc ?_ (by first | omega | (simp; done) | (simp; omega)) _)))
                  (first
                    | (refine step_app rfl (.tmp 28) (.tmp 31) 32 26 rfl Try.underlying32 Condition.infoE rfl (by omega) (by omega) Condition.enc_len Condition.enc_one w2.heap.size _ 0 [] (L.take 0) (some ad) 0 0 0 0 rfl (by omega) rfl (by simp [Act.eval, Act.put]) hkt (fun ad had j u hu => by simp at hu) (fun h => by cases h) (by first | exact own_none (by first | rfl | simp) (by first | omega | simp) | exact World.ownsRow.alloc (own_none (by first | rfl | simp) (by first | omega | simp)) _) (by first | omega | (simp; done) | (simp; omega)) (by omega) ?_; intro Aa ca wa hoa hba hga; have KA : Below w2.heap.size w2 wa := (show Below w2.heap.size w2 _ from by repeat (first | assumption | exact Below.refl _ _ | refine Below.drew ?_ | refine Below.alloc ?_ (by first | omega | (simp; done) | (simp; omega)) _)).trans hba; have hKA : w2.heap.size ≤ wa.heap.size := KA.size)
                    | (refine step_app rfl (.tmp 32) (.tmp 34) 32 26 rfl Try.underlying32 Condition.infoE rfl (by omega) (by omega) Condition.enc_len Condition.enc_one w2.heap.size _ ca ([] ++ L.take 0) [s] (some ⟨_, 0, none⟩) 1 1 (0) (0 + 1) (by rw [List.nil_append]; exact hkt) rfl rfl (by simp [Act.eval, Act.put] <;> rfl) rfl (fun ad had j u hu => by cases had; first | exact box_of _ wa s _ rfl _ _ (by first | rfl | simp) j u hu | exact (hga.cell_far _ (by first | (simp [Addr.add_mid]; done) | (simp [Addr.add_mid]; omega)) (by first | (simp [Addr.add_mid, Value.ownBlock]; done) | (simp [Addr.add_mid, Value.ownBlock]; omega))).trans (box_of _ (w2.alloc (.cells #[] 26)) s _ rfl _ _ (by first | rfl | simp) j u hu) | exact (hga.cell_far _ (by first | (simp [Addr.add_mid]; done) | (simp [Addr.add_mid]; omega)) (by first | (simp [Addr.add_mid, Value.ownBlock]; done) | (simp [Addr.add_mid, Value.ownBlock]; omega))).trans ((World.cell?_alloc_lt _ _ _ (by simp [Addr.add_mid])).trans (box_of _ w2 s _ rfl _ _ (by first | rfl | simp) j u hu))) (fun h => by cases h) (by first | exact hoa | exact World.ownsRow.alloc hoa _) (by first | omega | (simp; done) | (simp; omega)) (by omega) ?_; intro Ab cb wb hob hbb hgb; have KB : Below w2.heap.size w2 wb := (show Below w2.heap.size w2 _ from by repeat (first | assumption | exact Below.refl _ _ | refine Below.drew ?_ | refine Below.alloc ?_ (by first | omega | (simp; done) | (simp; omega)) _)).trans hbb; have hKB : w2.heap.size ≤ wb.heap.size := KB.size)
                    | (refine step_app rfl (.tmp 35) (.tmp 38) 32 26 rfl Try.underlying32 Condition.infoE rfl (by omega) (by omega) Condition.enc_len Condition.enc_one w2.heap.size _ cb ([] ++ L.take 0 ++ [s]) (([] : List Condition)) (some ad) 0 0 (0 + 1) (0 + 1 + 0) (by rw [List.length_append, List.nil_append, hkt]; rfl) (by omega) rfl (by simp [Act.eval, Act.put]) rfl (fun ad had j u hu => by simp at hu) (fun h => by cases h) (by first | exact hob | exact World.ownsRow.alloc hob _) (by first | omega | (simp; done) | (simp; omega)) (by omega) ?_; intro Ac cc wc hoc hbc hgc; have KC : Below w2.heap.size w2 wc := (show Below w2.heap.size w2 _ from by repeat (first | assumption | exact Below.refl _ _ | refine Below.drew ?_ | refine Below.alloc ?_ (by first | omega | (simp; done) | (simp; omega)) _)).trans hbc))
                all_goals
                  rw [HKE.out] at hoc
                  have BX := below_step B2 KC (Nat.le_refl _)
                  have ROC := Own.rd_of Condition.enc_len hoc
                  go_wp2_with (go_at_call 52; refine (l24Good_n HQ.out HZL.out _ _ _ ROC HOI.out (by rw [HZL.out]; unfold maxLen; omega)).mono ?_; rintro e w5 ⟨rfl, hb5⟩)
                  have BY := below_step BX hb5 (Nat.le_refl _)
                  go_ret2
                  have HL : addCV L s = insL L 0 s := by rw [addCV, if_pos HBV.out, HAD.out]
                  rw [HL, HBV.out]
                  exact ⟨_, _, by rw [HZL.out]; rfl, by rw [HZL.out]; exact Own.mono_ (Own.below hoc hb5) B2.size, BY⟩
            · have hck3 : ¬ 0 = cap := fun h => hck h.symm
              have hdk : L.drop 0 = [] := by rw [List.drop_eq_nil_iff]; omega
              have hke : ([] ++ L.take 0 ++ [s]) ++ ([] : List Condition) = insL L 0 s := by unfold insL; rw [hdk]; simp
              have hzl : (insL L 0 s).length = 0 + 1 + 0 := by unfold insL; rw [hdk]; simp <;> omega
              clear hdk
              have HOI := hide (ins_ok hok hs 0); have HKE := hide hke; have HZL := hide hzl; clear hke hzl
              have HAD := hide (show addCL L s = insL L 0 s by rw [addCL, HPOS.out])
              cases hq : goodC (insL L 0 s)
              · have HQ := hide hq; clear hq
                have HBV := hide (show addCB L s = false by rw [addCB, HP.out, HAD.out, HQ.out]; rfl)
                obtain ⟨z0, z1, z2, z3, z4⟩ := HBX.out ⟨w2, below_step hbel hb2 (Nat.le_refl _)⟩
                have hS : w.heap.size < w2.heap.size := World.block_lt_of_cell? _ _ z0
                have hkt : (L.take 0).length = 0 := by rw [List.length_take]; omega
                go_wp2_with fail
                have K0 : Below w2.heap.size w2 w2 := Below.refl _ _
                have HF := hide (fun (X : World) (hX : Below w2.heap.size w2 X) => show X.cell? ⟨w.heap.size, 0, none⟩ = some (.int .i64 s.number) ∧ X.cell? ⟨w.heap.size, 1, none⟩ = some (.string s.what) ∧ X.cell? ⟨w.heap.size, 2, none⟩ = some (.int .i64 s.every) ∧ X.cell? ⟨w.heap.size, 3, none⟩ = some (.int .i64 s.last) ∧ X.cell? ⟨w.heap.size, 4, none⟩ = some (.int .i64 s.grade) from ⟨(hX.cell hS).trans z0, (hX.cell hS).trans z1, (hX.cell hS).trans z2, (hX.cell hS).trans z3, (hX.cell hS).trans z4⟩)
                go_region_held_law (fun w' => w'.cell? ⟨w.heap.size, 0, none⟩ = some (.int .i64 s.number) ∧ w'.cell? ⟨w.heap.size, 1, none⟩ = some (.string s.what) ∧ w'.cell? ⟨w.heap.size, 2, none⟩ = some (.int .i64 s.every) ∧ w'.cell? ⟨w.heap.size, 3, none⟩ = some (.int .i64 s.last) ∧ w'.cell? ⟨w.heap.size, 4, none⟩ = some (.int .i64 s.grade)) (exact HF.out _ (by repeat (first | assumption | exact Below.refl _ _ | refine Below.drew ?_ | refine Below.alloc ?_ (by first | omega | (simp; done) | (simp; omega)) _)))
                  (first
                    | (refine step_app rfl (.tmp 28) (.tmp 31) 32 26 rfl Try.underlying32 Condition.infoE rfl (by omega) (by omega) Condition.enc_len Condition.enc_one w2.heap.size _ 0 [] (L.take 0) (some ad) 0 cap 0 0 rfl (by omega) rfl (by simp [Act.eval, Act.put]) hkt (fun ad had j u hu => by simp at hu) (fun h => by cases h) (by first | exact own_none (by first | rfl | simp) (by first | omega | simp) | exact World.ownsRow.alloc (own_none (by first | rfl | simp) (by first | omega | simp)) _) (by first | omega | (simp; done) | (simp; omega)) (by omega) ?_; intro Aa ca wa hoa hba hga; have KA : Below w2.heap.size w2 wa := (show Below w2.heap.size w2 _ from by repeat (first | assumption | exact Below.refl _ _ | refine Below.drew ?_ | refine Below.alloc ?_ (by first | omega | (simp; done) | (simp; omega)) _)).trans hba; have hKA : w2.heap.size ≤ wa.heap.size := KA.size)
                    | (refine step_app rfl (.tmp 32) (.tmp 34) 32 26 rfl Try.underlying32 Condition.infoE rfl (by omega) (by omega) Condition.enc_len Condition.enc_one w2.heap.size _ ca ([] ++ L.take 0) [s] (some ⟨_, 0, none⟩) 1 1 (0) (0 + 1) (by rw [List.nil_append]; exact hkt) rfl rfl (by simp [Act.eval, Act.put] <;> rfl) rfl (fun ad had j u hu => by cases had; first | exact box_of _ wa s _ rfl _ _ (by first | rfl | simp) j u hu | exact (hga.cell_far _ (by first | (simp [Addr.add_mid]; done) | (simp [Addr.add_mid]; omega)) (by first | (simp [Addr.add_mid, Value.ownBlock]; done) | (simp [Addr.add_mid, Value.ownBlock]; omega))).trans (box_of _ (w2.alloc (.cells #[] 26)) s _ rfl _ _ (by first | rfl | simp) j u hu) | exact (hga.cell_far _ (by first | (simp [Addr.add_mid]; done) | (simp [Addr.add_mid]; omega)) (by first | (simp [Addr.add_mid, Value.ownBlock]; done) | (simp [Addr.add_mid, Value.ownBlock]; omega))).trans ((World.cell?_alloc_lt _ _ _ (by simp [Addr.add_mid])).trans (box_of _ w2 s _ rfl _ _ (by first | rfl | simp) j u hu))) (fun h => by cases h) (by first | exact hoa | exact World.ownsRow.alloc hoa _) (by first | omega | (simp; done) | (simp; omega)) (by omega) ?_; intro Ab cb wb hob hbb hgb; have KB : Below w2.heap.size w2 wb := (show Below w2.heap.size w2 _ from by repeat (first | assumption | exact Below.refl _ _ | refine Below.drew ?_ | refine Below.alloc ?_ (by first | omega | (simp; done) | (simp; omega)) _)).trans hbb; have hKB : w2.heap.size ≤ wb.heap.size := KB.size)
                    | (refine step_app rfl (.tmp 35) (.tmp 38) 32 26 rfl Try.underlying32 Condition.infoE rfl (by omega) (by omega) Condition.enc_len Condition.enc_one w2.heap.size _ cb ([] ++ L.take 0 ++ [s]) (([] : List Condition)) (some ad) 0 cap (0 + 1) (0 + 1 + 0) (by rw [List.length_append, List.nil_append, hkt]; rfl) (by omega) rfl (by simp [Act.eval, Act.put]) rfl (fun ad had j u hu => by simp at hu) (fun h => by cases h) (by first | exact hob | exact World.ownsRow.alloc hob _) (by first | omega | (simp; done) | (simp; omega)) (by omega) ?_; intro Ac cc wc hoc hbc hgc; have KC : Below w2.heap.size w2 wc := (show Below w2.heap.size w2 _ from by repeat (first | assumption | exact Below.refl _ _ | refine Below.drew ?_ | refine Below.alloc ?_ (by first | omega | (simp; done) | (simp; omega)) _)).trans hbc))
                all_goals
                  rw [HKE.out] at hoc
                  have BX := below_step B2 KC (Nat.le_refl _)
                  have ROC := Own.rd_of Condition.enc_len hoc
                  go_wp2_with (go_at_call 52; refine (l24Good_n HQ.out HZL.out _ _ _ ROC HOI.out (by rw [HZL.out]; unfold maxLen; omega)).mono ?_; rintro e w5 ⟨rfl, hb5⟩)
                  have BY := below_step BX hb5 (Nat.le_refl _)
                  go_ret2
                  rw [hno HBV.out, HBV.out]
                  exact ⟨_, _, rfl, own_empty BY.size, below_step BY ((Below.refl _ _).alloc (Nat.le_refl _) _) (Nat.le_refl _)⟩
              · have HQ := hide hq; clear hq
                have HBV := hide (show addCB L s = true by rw [addCB, HP.out, HAD.out, HQ.out]; rfl)
                obtain ⟨z0, z1, z2, z3, z4⟩ := HBX.out ⟨w2, below_step hbel hb2 (Nat.le_refl _)⟩
                have hS : w.heap.size < w2.heap.size := World.block_lt_of_cell? _ _ z0
                have hkt : (L.take 0).length = 0 := by rw [List.length_take]; omega
                go_wp2_with fail
                have K0 : Below w2.heap.size w2 w2 := Below.refl _ _
                have HF := hide (fun (X : World) (hX : Below w2.heap.size w2 X) => show X.cell? ⟨w.heap.size, 0, none⟩ = some (.int .i64 s.number) ∧ X.cell? ⟨w.heap.size, 1, none⟩ = some (.string s.what) ∧ X.cell? ⟨w.heap.size, 2, none⟩ = some (.int .i64 s.every) ∧ X.cell? ⟨w.heap.size, 3, none⟩ = some (.int .i64 s.last) ∧ X.cell? ⟨w.heap.size, 4, none⟩ = some (.int .i64 s.grade) from ⟨(hX.cell hS).trans z0, (hX.cell hS).trans z1, (hX.cell hS).trans z2, (hX.cell hS).trans z3, (hX.cell hS).trans z4⟩)
                go_region_held_law (fun w' => w'.cell? ⟨w.heap.size, 0, none⟩ = some (.int .i64 s.number) ∧ w'.cell? ⟨w.heap.size, 1, none⟩ = some (.string s.what) ∧ w'.cell? ⟨w.heap.size, 2, none⟩ = some (.int .i64 s.every) ∧ w'.cell? ⟨w.heap.size, 3, none⟩ = some (.int .i64 s.last) ∧ w'.cell? ⟨w.heap.size, 4, none⟩ = some (.int .i64 s.grade)) (exact HF.out _ (by repeat (first | assumption | exact Below.refl _ _ | refine Below.drew ?_ | refine Below.alloc ?_ (by first | omega | (simp; done) | (simp; omega)) _)))
                  (first
                    | (refine step_app rfl (.tmp 28) (.tmp 31) 32 26 rfl Try.underlying32 Condition.infoE rfl (by omega) (by omega) Condition.enc_len Condition.enc_one w2.heap.size _ 0 [] (L.take 0) (some ad) 0 cap 0 0 rfl (by omega) rfl (by simp [Act.eval, Act.put]) hkt (fun ad had j u hu => by simp at hu) (fun h => by cases h) (by first | exact own_none (by first | rfl | simp) (by first | omega | simp) | exact World.ownsRow.alloc (own_none (by first | rfl | simp) (by first | omega | simp)) _) (by first | omega | (simp; done) | (simp; omega)) (by omega) ?_; intro Aa ca wa hoa hba hga; have KA : Below w2.heap.size w2 wa := (show Below w2.heap.size w2 _ from by repeat (first | assumption | exact Below.refl _ _ | refine Below.drew ?_ | refine Below.alloc ?_ (by first | omega | (simp; done) | (simp; omega)) _)).trans hba; have hKA : w2.heap.size ≤ wa.heap.size := KA.size)
                    | (refine step_app rfl (.tmp 32) (.tmp 34) 32 26 rfl Try.underlying32 Condition.infoE rfl (by omega) (by omega) Condition.enc_len Condition.enc_one w2.heap.size _ ca ([] ++ L.take 0) [s] (some ⟨_, 0, none⟩) 1 1 (0) (0 + 1) (by rw [List.nil_append]; exact hkt) rfl rfl (by simp [Act.eval, Act.put] <;> rfl) rfl (fun ad had j u hu => by cases had; first | exact box_of _ wa s _ rfl _ _ (by first | rfl | simp) j u hu | exact (hga.cell_far _ (by first | (simp [Addr.add_mid]; done) | (simp [Addr.add_mid]; omega)) (by first | (simp [Addr.add_mid, Value.ownBlock]; done) | (simp [Addr.add_mid, Value.ownBlock]; omega))).trans (box_of _ (w2.alloc (.cells #[] 26)) s _ rfl _ _ (by first | rfl | simp) j u hu) | exact (hga.cell_far _ (by first | (simp [Addr.add_mid]; done) | (simp [Addr.add_mid]; omega)) (by first | (simp [Addr.add_mid, Value.ownBlock]; done) | (simp [Addr.add_mid, Value.ownBlock]; omega))).trans ((World.cell?_alloc_lt _ _ _ (by simp [Addr.add_mid])).trans (box_of _ w2 s _ rfl _ _ (by first | rfl | simp) j u hu))) (fun h => by cases h) (by first | exact hoa | exact World.ownsRow.alloc hoa _) (by first | omega | (simp; done) | (simp; omega)) (by omega) ?_; intro Ab cb wb hob hbb hgb; have KB : Below w2.heap.size w2 wb := (show Below w2.heap.size w2 _ from by repeat (first | assumption | exact Below.refl _ _ | refine Below.drew ?_ | refine Below.alloc ?_ (by first | omega | (simp; done) | (simp; omega)) _)).trans hbb; have hKB : w2.heap.size ≤ wb.heap.size := KB.size)
                    | (refine step_app rfl (.tmp 35) (.tmp 38) 32 26 rfl Try.underlying32 Condition.infoE rfl (by omega) (by omega) Condition.enc_len Condition.enc_one w2.heap.size _ cb ([] ++ L.take 0 ++ [s]) (([] : List Condition)) (some ad) 0 cap (0 + 1) (0 + 1 + 0) (by rw [List.length_append, List.nil_append, hkt]; rfl) (by omega) rfl (by simp [Act.eval, Act.put]) rfl (fun ad had j u hu => by simp at hu) (fun h => by cases h) (by first | exact hob | exact World.ownsRow.alloc hob _) (by first | omega | (simp; done) | (simp; omega)) (by omega) ?_; intro Ac cc wc hoc hbc hgc; have KC : Below w2.heap.size w2 wc := (show Below w2.heap.size w2 _ from by repeat (first | assumption | exact Below.refl _ _ | refine Below.drew ?_ | refine Below.alloc ?_ (by first | omega | (simp; done) | (simp; omega)) _)).trans hbc))
                all_goals
                  rw [HKE.out] at hoc
                  have BX := below_step B2 KC (Nat.le_refl _)
                  have ROC := Own.rd_of Condition.enc_len hoc
                  go_wp2_with (go_at_call 52; refine (l24Good_n HQ.out HZL.out _ _ _ ROC HOI.out (by rw [HZL.out]; unfold maxLen; omega)).mono ?_; rintro e w5 ⟨rfl, hb5⟩)
                  have BY := below_step BX hb5 (Nat.le_refl _)
                  go_ret2
                  have HL : addCV L s = insL L 0 s := by rw [addCV, if_pos HBV.out, HAD.out]
                  rw [HL, HBV.out]
                  exact ⟨_, _, by rw [HZL.out]; rfl, by rw [HZL.out]; exact Own.mono_ (Own.below hoc hb5) B2.size, BY⟩
          · obtain ⟨b, o, hA, hbw, hct, _⟩ := rd_part Condition.enc_len (hr.later B2) hL k
            cases hA
            by_cases hck : cap = k
            · have hck2 := hck.symm; clear hck
              subst hck2
              have hdk : L.drop k = [] := by rw [List.drop_eq_nil_iff]; omega
              have hke : ([] ++ L.take k ++ [s]) ++ ([] : List Condition) = insL L k s := by unfold insL; rw [hdk]; simp
              have hzl : (insL L k s).length = k + 1 + 0 := by unfold insL; rw [hdk]; simp <;> omega
              clear hdk
              have HOI := hide (ins_ok hok hs k); have HKE := hide hke; have HZL := hide hzl; clear hke hzl
              have HAD := hide (show addCL L s = insL L k s by rw [addCL, HPOS.out])
              cases hq : goodC (insL L k s)
              · have HQ := hide hq; clear hq
                have HBV := hide (show addCB L s = false by rw [addCB, HP.out, HAD.out, HQ.out]; rfl)
                obtain ⟨z0, z1, z2, z3, z4⟩ := HBX.out ⟨w2, below_step hbel hb2 (Nat.le_refl _)⟩
                have hS : w.heap.size < w2.heap.size := World.block_lt_of_cell? _ _ z0
                have hkt : (L.take k).length = k := by rw [List.length_take]; omega
                have hk0 : (0 : Int) ≤ (k : Int) := by omega
                have hkl : (k : Int) ≤ (L.length : Int) := by omega
                have hkc : k ≤ k := by omega
                go_wp2_with fail
                have K0 : Below w2.heap.size w2 w2 := Below.refl _ _
                have HF := hide (fun (X : World) (hX : Below w2.heap.size w2 X) => show X.cell? ⟨w.heap.size, 0, none⟩ = some (.int .i64 s.number) ∧ X.cell? ⟨w.heap.size, 1, none⟩ = some (.string s.what) ∧ X.cell? ⟨w.heap.size, 2, none⟩ = some (.int .i64 s.every) ∧ X.cell? ⟨w.heap.size, 3, none⟩ = some (.int .i64 s.last) ∧ X.cell? ⟨w.heap.size, 4, none⟩ = some (.int .i64 s.grade) from ⟨(hX.cell hS).trans z0, (hX.cell hS).trans z1, (hX.cell hS).trans z2, (hX.cell hS).trans z3, (hX.cell hS).trans z4⟩)
                go_region_held_law (fun w' => w'.cell? ⟨w.heap.size, 0, none⟩ = some (.int .i64 s.number) ∧ w'.cell? ⟨w.heap.size, 1, none⟩ = some (.string s.what) ∧ w'.cell? ⟨w.heap.size, 2, none⟩ = some (.int .i64 s.every) ∧ w'.cell? ⟨w.heap.size, 3, none⟩ = some (.int .i64 s.last) ∧ w'.cell? ⟨w.heap.size, 4, none⟩ = some (.int .i64 s.grade)) (exact HF.out _ (by repeat (first | assumption | exact Below.refl _ _ | refine Below.drew ?_ | refine Below.alloc ?_ (by first | omega | (simp; done) | (simp; omega)) _)))
                  (first
                    | (refine step_app rfl (.tmp 28) (.tmp 31) 32 26 rfl Try.underlying32 Condition.infoE rfl (by omega) (by omega) Condition.enc_len Condition.enc_one w2.heap.size _ 0 [] (L.take k) (some ⟨b, o, none⟩) k k 0 k rfl (by omega) rfl (by simp [Act.eval, Act.put]) hkt (fun ad had j u hu => by cases had; rw [Addr.add_mid]; exact ((show Below w2.heap.size w2 _ from by repeat (first | assumption | exact Below.refl _ _ | refine Below.drew ?_ | refine Below.alloc ?_ (by first | omega | (simp; done) | (simp; omega)) _)).cell hbw).trans (hct j u hu)) (fun h => by cases h) (by first | exact own_none (by first | rfl | simp) (by first | omega | simp) | exact World.ownsRow.alloc (own_none (by first | rfl | simp) (by first | omega | simp)) _) (by first | omega | (simp; done) | (simp; omega)) (by omega) ?_; intro Aa ca wa hoa hba hga; have KA : Below w2.heap.size w2 wa := (show Below w2.heap.size w2 _ from by repeat (first | assumption | exact Below.refl _ _ | refine Below.drew ?_ | refine Below.alloc ?_ (by first | omega | (simp; done) | (simp; omega)) _)).trans hba; have hKA : w2.heap.size ≤ wa.heap.size := KA.size)
                    | (refine step_app rfl (.tmp 32) (.tmp 34) 32 26 rfl Try.underlying32 Condition.infoE rfl (by omega) (by omega) Condition.enc_len Condition.enc_one w2.heap.size _ ca ([] ++ L.take k) [s] (some ⟨_, 0, none⟩) 1 1 (k) (k + 1) (by rw [List.nil_append]; exact hkt) rfl rfl (by simp [Act.eval, Act.put] <;> rfl) rfl (fun ad had j u hu => by cases had; first | exact box_of _ wa s _ rfl _ _ (by first | rfl | simp) j u hu | exact (hga.cell_far _ (by first | (simp [Addr.add_mid]; done) | (simp [Addr.add_mid]; omega)) (by first | (simp [Addr.add_mid, Value.ownBlock]; done) | (simp [Addr.add_mid, Value.ownBlock]; omega))).trans (box_of _ (w2.alloc (.cells #[] 26)) s _ rfl _ _ (by first | rfl | simp) j u hu) | exact (hga.cell_far _ (by first | (simp [Addr.add_mid]; done) | (simp [Addr.add_mid]; omega)) (by first | (simp [Addr.add_mid, Value.ownBlock]; done) | (simp [Addr.add_mid, Value.ownBlock]; omega))).trans ((World.cell?_alloc_lt _ _ _ (by simp [Addr.add_mid])).trans (box_of _ w2 s _ rfl _ _ (by first | rfl | simp) j u hu))) (fun h => by cases h) (by first | exact hoa | exact World.ownsRow.alloc hoa _) (by first | omega | (simp; done) | (simp; omega)) (by omega) ?_; intro Ab cb wb hob hbb hgb; have KB : Below w2.heap.size w2 wb := (show Below w2.heap.size w2 _ from by repeat (first | assumption | exact Below.refl _ _ | refine Below.drew ?_ | refine Below.alloc ?_ (by first | omega | (simp; done) | (simp; omega)) _)).trans hbb; have hKB : w2.heap.size ≤ wb.heap.size := KB.size)
                    | (refine step_app rfl (.tmp 35) (.tmp 38) 32 26 rfl Try.underlying32 Condition.infoE rfl (by omega) (by omega) Condition.enc_len Condition.enc_one w2.heap.size _ cb ([] ++ L.take k ++ [s]) (([] : List Condition)) (some ⟨b, o, none⟩) 0 0 (k + 1) (k + 1 + 0) (by rw [List.length_append, List.nil_append, hkt]; rfl) (by omega) rfl (by simp [Act.eval, Act.put]) rfl (fun ad had j u hu => by simp at hu) (fun h => by cases h) (by first | exact hob | exact World.ownsRow.alloc hob _) (by first | omega | (simp; done) | (simp; omega)) (by omega) ?_; intro Ac cc wc hoc hbc hgc; have KC : Below w2.heap.size w2 wc := (show Below w2.heap.size w2 _ from by repeat (first | assumption | exact Below.refl _ _ | refine Below.drew ?_ | refine Below.alloc ?_ (by first | omega | (simp; done) | (simp; omega)) _)).trans hbc))
                all_goals
                  rw [HKE.out] at hoc
                  have BX := below_step B2 KC (Nat.le_refl _)
                  have ROC := Own.rd_of Condition.enc_len hoc
                  go_wp2_with (go_at_call 52; refine (l24Good_n HQ.out HZL.out _ _ _ ROC HOI.out (by rw [HZL.out]; unfold maxLen; omega)).mono ?_; rintro e w5 ⟨rfl, hb5⟩)
                  have BY := below_step BX hb5 (Nat.le_refl _)
                  go_ret2
                  rw [hno HBV.out, HBV.out]
                  exact ⟨_, _, rfl, own_empty BY.size, below_step BY ((Below.refl _ _).alloc (Nat.le_refl _) _) (Nat.le_refl _)⟩
              · have HQ := hide hq; clear hq
                have HBV := hide (show addCB L s = true by rw [addCB, HP.out, HAD.out, HQ.out]; rfl)
                obtain ⟨z0, z1, z2, z3, z4⟩ := HBX.out ⟨w2, below_step hbel hb2 (Nat.le_refl _)⟩
                have hS : w.heap.size < w2.heap.size := World.block_lt_of_cell? _ _ z0
                have hkt : (L.take k).length = k := by rw [List.length_take]; omega
                have hk0 : (0 : Int) ≤ (k : Int) := by omega
                have hkl : (k : Int) ≤ (L.length : Int) := by omega
                have hkc : k ≤ k := by omega
                go_wp2_with fail
                have K0 : Below w2.heap.size w2 w2 := Below.refl _ _
                have HF := hide (fun (X : World) (hX : Below w2.heap.size w2 X) => show X.cell? ⟨w.heap.size, 0, none⟩ = some (.int .i64 s.number) ∧ X.cell? ⟨w.heap.size, 1, none⟩ = some (.string s.what) ∧ X.cell? ⟨w.heap.size, 2, none⟩ = some (.int .i64 s.every) ∧ X.cell? ⟨w.heap.size, 3, none⟩ = some (.int .i64 s.last) ∧ X.cell? ⟨w.heap.size, 4, none⟩ = some (.int .i64 s.grade) from ⟨(hX.cell hS).trans z0, (hX.cell hS).trans z1, (hX.cell hS).trans z2, (hX.cell hS).trans z3, (hX.cell hS).trans z4⟩)
                go_region_held_law (fun w' => w'.cell? ⟨w.heap.size, 0, none⟩ = some (.int .i64 s.number) ∧ w'.cell? ⟨w.heap.size, 1, none⟩ = some (.string s.what) ∧ w'.cell? ⟨w.heap.size, 2, none⟩ = some (.int .i64 s.every) ∧ w'.cell? ⟨w.heap.size, 3, none⟩ = some (.int .i64 s.last) ∧ w'.cell? ⟨w.heap.size, 4, none⟩ = some (.int .i64 s.grade)) (exact HF.out _ (by repeat (first | assumption | exact Below.refl _ _ | refine Below.drew ?_ | refine Below.alloc ?_ (by first | omega | (simp; done) | (simp; omega)) _)))
                  (first
                    | (refine step_app rfl (.tmp 28) (.tmp 31) 32 26 rfl Try.underlying32 Condition.infoE rfl (by omega) (by omega) Condition.enc_len Condition.enc_one w2.heap.size _ 0 [] (L.take k) (some ⟨b, o, none⟩) k k 0 k rfl (by omega) rfl (by simp [Act.eval, Act.put]) hkt (fun ad had j u hu => by cases had; rw [Addr.add_mid]; exact ((show Below w2.heap.size w2 _ from by repeat (first | assumption | exact Below.refl _ _ | refine Below.drew ?_ | refine Below.alloc ?_ (by first | omega | (simp; done) | (simp; omega)) _)).cell hbw).trans (hct j u hu)) (fun h => by cases h) (by first | exact own_none (by first | rfl | simp) (by first | omega | simp) | exact World.ownsRow.alloc (own_none (by first | rfl | simp) (by first | omega | simp)) _) (by first | omega | (simp; done) | (simp; omega)) (by omega) ?_; intro Aa ca wa hoa hba hga; have KA : Below w2.heap.size w2 wa := (show Below w2.heap.size w2 _ from by repeat (first | assumption | exact Below.refl _ _ | refine Below.drew ?_ | refine Below.alloc ?_ (by first | omega | (simp; done) | (simp; omega)) _)).trans hba; have hKA : w2.heap.size ≤ wa.heap.size := KA.size)
                    | (refine step_app rfl (.tmp 32) (.tmp 34) 32 26 rfl Try.underlying32 Condition.infoE rfl (by omega) (by omega) Condition.enc_len Condition.enc_one w2.heap.size _ ca ([] ++ L.take k) [s] (some ⟨_, 0, none⟩) 1 1 (k) (k + 1) (by rw [List.nil_append]; exact hkt) rfl rfl (by simp [Act.eval, Act.put] <;> rfl) rfl (fun ad had j u hu => by cases had; first | exact box_of _ wa s _ rfl _ _ (by first | rfl | simp) j u hu | exact (hga.cell_far _ (by first | (simp [Addr.add_mid]; done) | (simp [Addr.add_mid]; omega)) (by first | (simp [Addr.add_mid, Value.ownBlock]; done) | (simp [Addr.add_mid, Value.ownBlock]; omega))).trans (box_of _ (w2.alloc (.cells #[] 26)) s _ rfl _ _ (by first | rfl | simp) j u hu) | exact (hga.cell_far _ (by first | (simp [Addr.add_mid]; done) | (simp [Addr.add_mid]; omega)) (by first | (simp [Addr.add_mid, Value.ownBlock]; done) | (simp [Addr.add_mid, Value.ownBlock]; omega))).trans ((World.cell?_alloc_lt _ _ _ (by simp [Addr.add_mid])).trans (box_of _ w2 s _ rfl _ _ (by first | rfl | simp) j u hu))) (fun h => by cases h) (by first | exact hoa | exact World.ownsRow.alloc hoa _) (by first | omega | (simp; done) | (simp; omega)) (by omega) ?_; intro Ab cb wb hob hbb hgb; have KB : Below w2.heap.size w2 wb := (show Below w2.heap.size w2 _ from by repeat (first | assumption | exact Below.refl _ _ | refine Below.drew ?_ | refine Below.alloc ?_ (by first | omega | (simp; done) | (simp; omega)) _)).trans hbb; have hKB : w2.heap.size ≤ wb.heap.size := KB.size)
                    | (refine step_app rfl (.tmp 35) (.tmp 38) 32 26 rfl Try.underlying32 Condition.infoE rfl (by omega) (by omega) Condition.enc_len Condition.enc_one w2.heap.size _ cb ([] ++ L.take k ++ [s]) (([] : List Condition)) (some ⟨b, o, none⟩) 0 0 (k + 1) (k + 1 + 0) (by rw [List.length_append, List.nil_append, hkt]; rfl) (by omega) rfl (by simp [Act.eval, Act.put]) rfl (fun ad had j u hu => by simp at hu) (fun h => by cases h) (by first | exact hob | exact World.ownsRow.alloc hob _) (by first | omega | (simp; done) | (simp; omega)) (by omega) ?_; intro Ac cc wc hoc hbc hgc; have KC : Below w2.heap.size w2 wc := (show Below w2.heap.size w2 _ from by repeat (first | assumption | exact Below.refl _ _ | refine Below.drew ?_ | refine Below.alloc ?_ (by first | omega | (simp; done) | (simp; omega)) _)).trans hbc))
                all_goals
                  rw [HKE.out] at hoc
                  have BX := below_step B2 KC (Nat.le_refl _)
                  have ROC := Own.rd_of Condition.enc_len hoc
                  go_wp2_with (go_at_call 52; refine (l24Good_n HQ.out HZL.out _ _ _ ROC HOI.out (by rw [HZL.out]; unfold maxLen; omega)).mono ?_; rintro e w5 ⟨rfl, hb5⟩)
                  have BY := below_step BX hb5 (Nat.le_refl _)
                  go_ret2
                  have HL : addCV L s = insL L k s := by rw [addCV, if_pos HBV.out, HAD.out]
                  rw [HL, HBV.out]
                  exact ⟨_, _, by rw [HZL.out]; rfl, by rw [HZL.out]; exact Own.mono_ (Own.below hoc hb5) B2.size, BY⟩
            · have hck3 : ¬ k = cap := fun h => hck h.symm
              have hdk : L.drop k = [] := by rw [List.drop_eq_nil_iff]; omega
              have hke : ([] ++ L.take k ++ [s]) ++ ([] : List Condition) = insL L k s := by unfold insL; rw [hdk]; simp
              have hzl : (insL L k s).length = k + 1 + 0 := by unfold insL; rw [hdk]; simp <;> omega
              clear hdk
              have HOI := hide (ins_ok hok hs k); have HKE := hide hke; have HZL := hide hzl; clear hke hzl
              have HAD := hide (show addCL L s = insL L k s by rw [addCL, HPOS.out])
              cases hq : goodC (insL L k s)
              · have HQ := hide hq; clear hq
                have HBV := hide (show addCB L s = false by rw [addCB, HP.out, HAD.out, HQ.out]; rfl)
                obtain ⟨z0, z1, z2, z3, z4⟩ := HBX.out ⟨w2, below_step hbel hb2 (Nat.le_refl _)⟩
                have hS : w.heap.size < w2.heap.size := World.block_lt_of_cell? _ _ z0
                have hkt : (L.take k).length = k := by rw [List.length_take]; omega
                have hk0 : (0 : Int) ≤ (k : Int) := by omega
                have hkl : (k : Int) ≤ (L.length : Int) := by omega
                have hkc : k ≤ cap := by omega
                go_wp2_with fail
                have K0 : Below w2.heap.size w2 w2 := Below.refl _ _
                have HF := hide (fun (X : World) (hX : Below w2.heap.size w2 X) => show X.cell? ⟨w.heap.size, 0, none⟩ = some (.int .i64 s.number) ∧ X.cell? ⟨w.heap.size, 1, none⟩ = some (.string s.what) ∧ X.cell? ⟨w.heap.size, 2, none⟩ = some (.int .i64 s.every) ∧ X.cell? ⟨w.heap.size, 3, none⟩ = some (.int .i64 s.last) ∧ X.cell? ⟨w.heap.size, 4, none⟩ = some (.int .i64 s.grade) from ⟨(hX.cell hS).trans z0, (hX.cell hS).trans z1, (hX.cell hS).trans z2, (hX.cell hS).trans z3, (hX.cell hS).trans z4⟩)
                go_region_held_law (fun w' => w'.cell? ⟨w.heap.size, 0, none⟩ = some (.int .i64 s.number) ∧ w'.cell? ⟨w.heap.size, 1, none⟩ = some (.string s.what) ∧ w'.cell? ⟨w.heap.size, 2, none⟩ = some (.int .i64 s.every) ∧ w'.cell? ⟨w.heap.size, 3, none⟩ = some (.int .i64 s.last) ∧ w'.cell? ⟨w.heap.size, 4, none⟩ = some (.int .i64 s.grade)) (exact HF.out _ (by repeat (first | assumption | exact Below.refl _ _ | refine Below.drew ?_ | refine Below.alloc ?_ (by first | omega | (simp; done) | (simp; omega)) _)))
                  (first
                    | (refine step_app rfl (.tmp 28) (.tmp 31) 32 26 rfl Try.underlying32 Condition.infoE rfl (by omega) (by omega) Condition.enc_len Condition.enc_one w2.heap.size _ 0 [] (L.take k) (some ⟨b, o, none⟩) k cap 0 k rfl (by omega) rfl (by simp [Act.eval, Act.put]) hkt (fun ad had j u hu => by cases had; rw [Addr.add_mid]; exact ((show Below w2.heap.size w2 _ from by repeat (first | assumption | exact Below.refl _ _ | refine Below.drew ?_ | refine Below.alloc ?_ (by first | omega | (simp; done) | (simp; omega)) _)).cell hbw).trans (hct j u hu)) (fun h => by cases h) (by first | exact own_none (by first | rfl | simp) (by first | omega | simp) | exact World.ownsRow.alloc (own_none (by first | rfl | simp) (by first | omega | simp)) _) (by first | omega | (simp; done) | (simp; omega)) (by omega) ?_; intro Aa ca wa hoa hba hga; have KA : Below w2.heap.size w2 wa := (show Below w2.heap.size w2 _ from by repeat (first | assumption | exact Below.refl _ _ | refine Below.drew ?_ | refine Below.alloc ?_ (by first | omega | (simp; done) | (simp; omega)) _)).trans hba; have hKA : w2.heap.size ≤ wa.heap.size := KA.size)
                    | (refine step_app rfl (.tmp 32) (.tmp 34) 32 26 rfl Try.underlying32 Condition.infoE rfl (by omega) (by omega) Condition.enc_len Condition.enc_one w2.heap.size _ ca ([] ++ L.take k) [s] (some ⟨_, 0, none⟩) 1 1 (k) (k + 1) (by rw [List.nil_append]; exact hkt) rfl rfl (by simp [Act.eval, Act.put] <;> rfl) rfl (fun ad had j u hu => by cases had; first | exact box_of _ wa s _ rfl _ _ (by first | rfl | simp) j u hu | exact (hga.cell_far _ (by first | (simp [Addr.add_mid]; done) | (simp [Addr.add_mid]; omega)) (by first | (simp [Addr.add_mid, Value.ownBlock]; done) | (simp [Addr.add_mid, Value.ownBlock]; omega))).trans (box_of _ (w2.alloc (.cells #[] 26)) s _ rfl _ _ (by first | rfl | simp) j u hu) | exact (hga.cell_far _ (by first | (simp [Addr.add_mid]; done) | (simp [Addr.add_mid]; omega)) (by first | (simp [Addr.add_mid, Value.ownBlock]; done) | (simp [Addr.add_mid, Value.ownBlock]; omega))).trans ((World.cell?_alloc_lt _ _ _ (by simp [Addr.add_mid])).trans (box_of _ w2 s _ rfl _ _ (by first | rfl | simp) j u hu))) (fun h => by cases h) (by first | exact hoa | exact World.ownsRow.alloc hoa _) (by first | omega | (simp; done) | (simp; omega)) (by omega) ?_; intro Ab cb wb hob hbb hgb; have KB : Below w2.heap.size w2 wb := (show Below w2.heap.size w2 _ from by repeat (first | assumption | exact Below.refl _ _ | refine Below.drew ?_ | refine Below.alloc ?_ (by first | omega | (simp; done) | (simp; omega)) _)).trans hbb; have hKB : w2.heap.size ≤ wb.heap.size := KB.size)
                    | (refine step_app rfl (.tmp 35) (.tmp 38) 32 26 rfl Try.underlying32 Condition.infoE rfl (by omega) (by omega) Condition.enc_len Condition.enc_one w2.heap.size _ cb ([] ++ L.take k ++ [s]) (([] : List Condition)) (some ⟨b, o + k * 5, none⟩) 0 (cap - k) (k + 1) (k + 1 + 0) (by rw [List.length_append, List.nil_append, hkt]; rfl) (by omega) rfl (by simp [Act.eval, Act.put]) rfl (fun ad had j u hu => by simp at hu) (fun h => by cases h) (by first | exact hob | exact World.ownsRow.alloc hob _) (by first | omega | (simp; done) | (simp; omega)) (by omega) ?_; intro Ac cc wc hoc hbc hgc; have KC : Below w2.heap.size w2 wc := (show Below w2.heap.size w2 _ from by repeat (first | assumption | exact Below.refl _ _ | refine Below.drew ?_ | refine Below.alloc ?_ (by first | omega | (simp; done) | (simp; omega)) _)).trans hbc))
                all_goals
                  rw [HKE.out] at hoc
                  have BX := below_step B2 KC (Nat.le_refl _)
                  have ROC := Own.rd_of Condition.enc_len hoc
                  go_wp2_with (go_at_call 52; refine (l24Good_n HQ.out HZL.out _ _ _ ROC HOI.out (by rw [HZL.out]; unfold maxLen; omega)).mono ?_; rintro e w5 ⟨rfl, hb5⟩)
                  have BY := below_step BX hb5 (Nat.le_refl _)
                  go_ret2
                  rw [hno HBV.out, HBV.out]
                  exact ⟨_, _, rfl, own_empty BY.size, below_step BY ((Below.refl _ _).alloc (Nat.le_refl _) _) (Nat.le_refl _)⟩
              · have HQ := hide hq; clear hq
                have HBV := hide (show addCB L s = true by rw [addCB, HP.out, HAD.out, HQ.out]; rfl)
                obtain ⟨z0, z1, z2, z3, z4⟩ := HBX.out ⟨w2, below_step hbel hb2 (Nat.le_refl _)⟩
                have hS : w.heap.size < w2.heap.size := World.block_lt_of_cell? _ _ z0
                have hkt : (L.take k).length = k := by rw [List.length_take]; omega
                have hk0 : (0 : Int) ≤ (k : Int) := by omega
                have hkl : (k : Int) ≤ (L.length : Int) := by omega
                have hkc : k ≤ cap := by omega
                go_wp2_with fail
                have K0 : Below w2.heap.size w2 w2 := Below.refl _ _
                have HF := hide (fun (X : World) (hX : Below w2.heap.size w2 X) => show X.cell? ⟨w.heap.size, 0, none⟩ = some (.int .i64 s.number) ∧ X.cell? ⟨w.heap.size, 1, none⟩ = some (.string s.what) ∧ X.cell? ⟨w.heap.size, 2, none⟩ = some (.int .i64 s.every) ∧ X.cell? ⟨w.heap.size, 3, none⟩ = some (.int .i64 s.last) ∧ X.cell? ⟨w.heap.size, 4, none⟩ = some (.int .i64 s.grade) from ⟨(hX.cell hS).trans z0, (hX.cell hS).trans z1, (hX.cell hS).trans z2, (hX.cell hS).trans z3, (hX.cell hS).trans z4⟩)
                go_region_held_law (fun w' => w'.cell? ⟨w.heap.size, 0, none⟩ = some (.int .i64 s.number) ∧ w'.cell? ⟨w.heap.size, 1, none⟩ = some (.string s.what) ∧ w'.cell? ⟨w.heap.size, 2, none⟩ = some (.int .i64 s.every) ∧ w'.cell? ⟨w.heap.size, 3, none⟩ = some (.int .i64 s.last) ∧ w'.cell? ⟨w.heap.size, 4, none⟩ = some (.int .i64 s.grade)) (exact HF.out _ (by repeat (first | assumption | exact Below.refl _ _ | refine Below.drew ?_ | refine Below.alloc ?_ (by first | omega | (simp; done) | (simp; omega)) _)))
                  (first
                    | (refine step_app rfl (.tmp 28) (.tmp 31) 32 26 rfl Try.underlying32 Condition.infoE rfl (by omega) (by omega) Condition.enc_len Condition.enc_one w2.heap.size _ 0 [] (L.take k) (some ⟨b, o, none⟩) k cap 0 k rfl (by omega) rfl (by simp [Act.eval, Act.put]) hkt (fun ad had j u hu => by cases had; rw [Addr.add_mid]; exact ((show Below w2.heap.size w2 _ from by repeat (first | assumption | exact Below.refl _ _ | refine Below.drew ?_ | refine Below.alloc ?_ (by first | omega | (simp; done) | (simp; omega)) _)).cell hbw).trans (hct j u hu)) (fun h => by cases h) (by first | exact own_none (by first | rfl | simp) (by first | omega | simp) | exact World.ownsRow.alloc (own_none (by first | rfl | simp) (by first | omega | simp)) _) (by first | omega | (simp; done) | (simp; omega)) (by omega) ?_; intro Aa ca wa hoa hba hga; have KA : Below w2.heap.size w2 wa := (show Below w2.heap.size w2 _ from by repeat (first | assumption | exact Below.refl _ _ | refine Below.drew ?_ | refine Below.alloc ?_ (by first | omega | (simp; done) | (simp; omega)) _)).trans hba; have hKA : w2.heap.size ≤ wa.heap.size := KA.size)
                    | (refine step_app rfl (.tmp 32) (.tmp 34) 32 26 rfl Try.underlying32 Condition.infoE rfl (by omega) (by omega) Condition.enc_len Condition.enc_one w2.heap.size _ ca ([] ++ L.take k) [s] (some ⟨_, 0, none⟩) 1 1 (k) (k + 1) (by rw [List.nil_append]; exact hkt) rfl rfl (by simp [Act.eval, Act.put] <;> rfl) rfl (fun ad had j u hu => by cases had; first | exact box_of _ wa s _ rfl _ _ (by first | rfl | simp) j u hu | exact (hga.cell_far _ (by first | (simp [Addr.add_mid]; done) | (simp [Addr.add_mid]; omega)) (by first | (simp [Addr.add_mid, Value.ownBlock]; done) | (simp [Addr.add_mid, Value.ownBlock]; omega))).trans (box_of _ (w2.alloc (.cells #[] 26)) s _ rfl _ _ (by first | rfl | simp) j u hu) | exact (hga.cell_far _ (by first | (simp [Addr.add_mid]; done) | (simp [Addr.add_mid]; omega)) (by first | (simp [Addr.add_mid, Value.ownBlock]; done) | (simp [Addr.add_mid, Value.ownBlock]; omega))).trans ((World.cell?_alloc_lt _ _ _ (by simp [Addr.add_mid])).trans (box_of _ w2 s _ rfl _ _ (by first | rfl | simp) j u hu))) (fun h => by cases h) (by first | exact hoa | exact World.ownsRow.alloc hoa _) (by first | omega | (simp; done) | (simp; omega)) (by omega) ?_; intro Ab cb wb hob hbb hgb; have KB : Below w2.heap.size w2 wb := (show Below w2.heap.size w2 _ from by repeat (first | assumption | exact Below.refl _ _ | refine Below.drew ?_ | refine Below.alloc ?_ (by first | omega | (simp; done) | (simp; omega)) _)).trans hbb; have hKB : w2.heap.size ≤ wb.heap.size := KB.size)
                    | (refine step_app rfl (.tmp 35) (.tmp 38) 32 26 rfl Try.underlying32 Condition.infoE rfl (by omega) (by omega) Condition.enc_len Condition.enc_one w2.heap.size _ cb ([] ++ L.take k ++ [s]) (([] : List Condition)) (some ⟨b, o + k * 5, none⟩) 0 (cap - k) (k + 1) (k + 1 + 0) (by rw [List.length_append, List.nil_append, hkt]; rfl) (by omega) rfl (by simp [Act.eval, Act.put]) rfl (fun ad had j u hu => by simp at hu) (fun h => by cases h) (by first | exact hob | exact World.ownsRow.alloc hob _) (by first | omega | (simp; done) | (simp; omega)) (by omega) ?_; intro Ac cc wc hoc hbc hgc; have KC : Below w2.heap.size w2 wc := (show Below w2.heap.size w2 _ from by repeat (first | assumption | exact Below.refl _ _ | refine Below.drew ?_ | refine Below.alloc ?_ (by first | omega | (simp; done) | (simp; omega)) _)).trans hbc))
                all_goals
                  rw [HKE.out] at hoc
                  have BX := below_step B2 KC (Nat.le_refl _)
                  have ROC := Own.rd_of Condition.enc_len hoc
                  go_wp2_with (go_at_call 52; refine (l24Good_n HQ.out HZL.out _ _ _ ROC HOI.out (by rw [HZL.out]; unfold maxLen; omega)).mono ?_; rintro e w5 ⟨rfl, hb5⟩)
                  have BY := below_step BX hb5 (Nat.le_refl _)
                  go_ret2
                  have HL : addCV L s = insL L k s := by rw [addCV, if_pos HBV.out, HAD.out]
                  rw [HL, HBV.out]
                  exact ⟨_, _, by rw [HZL.out]; rfl, by rw [HZL.out]; exact Own.mono_ (Own.below hoc hb5) B2.size, BY⟩
end Go.Proofs.Ytknondhdhjegbaa
