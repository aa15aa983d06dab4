/- Plain facts on the text of a grip's state: its parts, its words, the number in it. No program. -/
import Derived.Test.YtkdnkhbcbcffeaaDoorGtx
import Derived.Lib.Atoi
import Derived.Lib.IndexMore
import Derived.Lib.SlicesS
namespace Go.Proofs.YtkdnkhbcbcffeaaDoor
open Go Go.RowKit
set_option linter.unusedVariables false
set_option linter.unusedSimpArgs false
/- digits -/
def digL (l : List UInt8) : Prop := ∀ c ∈ l, 48 ≤ c.toNat ∧ c.toNat ≤ 57
theorem dig_val {c : UInt8} (h : 48 ≤ c.toNat ∧ c.toNat ≤ 57) : Lib.digitVal c = some (c.toNat - 48) := by simp [Lib.digitVal, h]
theorem dig_not {c : UInt8} (h : ¬ (48 ≤ c.toNat ∧ c.toNat ≤ 57)) : Lib.digitVal c = none := by simp only [Lib.digitVal, if_neg h]
theorem decFrom_app : ∀ (l r : List UInt8) (acc n : Nat), Lib.decFrom acc l = some n → Lib.decFrom acc (l ++ r) = Lib.decFrom n r
  | [], r, acc, n, h => by simp [Lib.decFrom] at h; subst h; rfl
  | c :: l, r, acc, n, h => by
    simp only [Lib.decFrom, List.cons_append] at h ⊢
    cases hd : Lib.digitVal c with
    | none => rw [hd] at h; cases h
    | some d => rw [hd] at h; exact decFrom_app l r _ n h
theorem dd_one {u : Nat} (h : u < 10) : (UInt8.ofNat (48 + u)).toNat = 48 + u := by
  rw [UInt8.toNat_ofNat']; omega
theorem dd_all : ∀ (m n : Nat), n ≤ m → digL (Lib.decDigits n) ∧ Lib.decFrom 0 (Lib.decDigits n) = some n ∧ Lib.decDigits n ≠ []
  | m, n, hm => by
    by_cases h : n < 10
    · rw [Lib.decDigits_one h]
      have e := dd_one h
      refine ⟨fun c hc => ?_, ?_, by simp⟩
      · rw [List.mem_singleton] at hc; subst hc; rw [e]; omega
      · simp only [Lib.decFrom, dig_val (c := UInt8.ofNat (48 + n)) (by rw [e]; omega), e]; simp
    · match m, hm with
      | 0, hm => omega
      | m + 1, hm =>
        obtain ⟨i1, i2, i3⟩ := dd_all m (n / 10) (by omega)
        have e := dd_one (show n % 10 < 10 from Nat.mod_lt _ (by decide))
        rw [Lib.decDigits, dif_neg h]
        refine ⟨fun c hc => ?_, ?_, by simp⟩
        · rcases List.mem_append.1 hc with h1 | h1
          · exact i1 c h1
          · rw [List.mem_singleton] at h1; subst h1; rw [e]; omega
        · rw [decFrom_app _ _ _ _ i2]
          simp only [Lib.decFrom, dig_val (c := UInt8.ofNat (48 + n % 10)) (by rw [e]; omega), e]
          congr 1; omega
theorem dd_len : ∀ (k n : Nat), 1 ≤ k → n < 10 ^ k → (Lib.decDigits n).length ≤ k
  | 0, _, h, _ => by omega
  | k + 1, n, _, h => by
    by_cases h10 : n < 10
    · rw [Lib.decDigits_one h10]; simp
    · rw [Lib.decDigits, dif_neg h10]
      have : n / 10 < 10 ^ k := by rw [Nat.pow_succ] at h; omega
      have hk : 1 ≤ k := by
        rcases Nat.eq_zero_or_pos k with rfl | h2
        · simp at h; omega
        · exact h2
      have := dd_len k (n / 10) hk this
      simp; omega
theorem numB_list (n : Nat) : (numB (n : Int)).data.toList = Lib.decDigits n := by
  unfold numB; rw [Lib.itoa_nonneg]
theorem numB_fact {m : Int} (h0 : 0 ≤ m) (h1 : m ≤ 999999) : digL (numB m).data.toList ∧ Lib.decFrom 0 (numB m).data.toList = some m.toNat ∧ (numB m).data.toList ≠ [] ∧ (numB m).data.toList.length ≤ 6 := by
  obtain ⟨n, rfl⟩ := Int.eq_ofNat_of_zero_le h0
  rw [numB_list]
  obtain ⟨a, b, c⟩ := dd_all n n (Nat.le_refl _)
  have h6 : (10 : Nat) ^ 6 = 1000000 := by decide
  exact ⟨a, by rw [b]; simp, c, dd_len 6 n (by decide) (by omega)⟩
theorem numB_atoi {m : Int} (h0 : 0 ≤ m) (h1 : m ≤ 999999) : Lib.atoi (numB m).data.toList = some m := by
  obtain ⟨a, b, c, _⟩ := numB_fact h0 h1
  cases hl : (numB m).data.toList with
  | nil => exact absurd hl c
  | cons x t =>
    rw [hl] at a b
    have hx := a x List.mem_cons_self
    have h45 : (x == 45) = false := by
      rw [beq_eq_false_iff_ne]; intro h; subst h; exact absurd hx (by decide)
    have h43 : (x == 43) = false := by
      rw [beq_eq_false_iff_ne]; intro h; subst h; exact absurd hx (by decide)
    simp only [Lib.atoi, h45, h43, Bool.false_eq_true, if_false]
    rw [show Lib.decNat (x :: t) = Lib.decFrom 0 (x :: t) by simp [Lib.decNat], b]
    simp; omega
/- the number that the program reads -/
def piV (s : ByteArray) : Int := if 7 < s.size then 0 else match Lib.atoi s.data.toList with
  | none => 0
  | some n => if -999999 ≤ n ∧ n ≤ 999999 ∧ numB n = s then n else 0
theorem piV_num {m : Int} (h0 : 0 ≤ m) (h1 : m ≤ 999999) : piV (numB m) = m := by
  obtain ⟨_, _, _, d⟩ := numB_fact h0 h1
  have hs : ¬ 7 < (numB m).size := by
    have : (numB m).size = (numB m).data.toList.length := by simp
    omega
  rw [piV, if_neg hs, numB_atoi h0 h1]
  show (if -999999 ≤ m ∧ m ≤ 999999 ∧ numB m = numB m then m else 0) = m
  rw [if_pos ⟨by omega, h1, rfl⟩]
theorem piV_none : piV ⟨#[]⟩ = 0 := by decide
/- words -/
def spF (b : UInt8) (out : List ByteArray) (cur : List UInt8) : List UInt8 → List ByteArray
  | [] => out ++ [⟨cur.toArray⟩]
  | c :: t => if c = b then spF b (out ++ [⟨cur.toArray⟩]) [] t else spF b out (cur ++ [c]) t
def splL (s : ByteArray) : List ByteArray := spF 32 [] [] s.data.toList
theorem spF_digits (out : List ByteArray) : ∀ (cur l : List UInt8), digL l → spF 32 out cur l = out ++ [⟨(cur ++ l).toArray⟩]
  | cur, [], _ => by simp [spF]
  | cur, c :: t, h => by
    have hc := h c List.mem_cons_self
    have hne : ¬ c = 32 := by intro e; subst e; exact absurd hc (by decide)
    rw [spF, if_neg hne, spF_digits out (cur ++ [c]) t (fun x hx => h x (List.mem_cons_of_mem _ hx))]
    simp
/- the state that a text tells -/
def pgG (s : ByteArray) : GripState :=
  ⟨Lib.idxOfS stNs ⟨(Lib.cut s.data.toList inT.data.toList).1.toArray⟩, Lib.idxOfS znNs ⟨(Lib.cut (Lib.cut s.data.toList inT.data.toList).2.1 withT.data.toList).1.toArray⟩, piV ⟨(Lib.cut (Lib.cut s.data.toList inT.data.toList).2.1 withT.data.toList).2.1.toArray⟩, 0⟩
def pgB (s : ByteArray) : Bool := gripB (pgG s) && decide (gtxF (pgG s) = s)
def pgV (s : ByteArray) : GripState := if pgB s then pgG s else ⟨0, 0, 0, 0⟩
theorem cut_at {a sep b : List UInt8} (h : Lib.index (a ++ sep ++ b) sep = (a.length : Nat)) : Lib.cut (a ++ sep ++ b) sep = (a, b, true) := by
  unfold Lib.cut
  rw [h, if_pos (by omega)]
  simp
theorem cut_none {s sep : List UInt8} (h : Lib.index s sep = -1) : Lib.cut s sep = (s, [], false) := by
  unfold Lib.cut; rw [h]; rfl
def stL (n : Nat) : List UInt8 := ([[111, 112, 101, 110], [99, 108, 111, 115, 105, 110, 103], [115, 104, 117, 116], [111, 112, 101, 110, 105, 110, 103], [108, 111, 99, 107, 101, 100]] : List (List UInt8)).getD n []
def znL (n : Nat) : List UInt8 := ([[115, 116, 97, 116, 105, 111, 110], [101, 110, 116, 114, 121], [114, 111, 112, 101], [101, 120, 105, 116]] : List (List UInt8)).getD n []
theorem st_cut (s : Nat) (hs : s < 5) (b : List UInt8) : Lib.cut (stL s ++ [32, 105, 110, 32] ++ b) [32, 105, 110, 32] = (stL s, b, true) := by
  refine cut_at ?_
  rcases (by omega : s = 0 ∨ s = 1 ∨ s = 2 ∨ s = 3 ∨ s = 4) with rfl | rfl | rfl | rfl | rfl <;> simp [stL, Lib.index, List.isPrefixOf]
theorem zn_cut (z : Nat) (hz : z < 4) (b : List UInt8) : Lib.cut (znL z ++ [32, 119, 105, 116, 104, 32] ++ b) [32, 119, 105, 116, 104, 32] = (znL z, b, true) := by
  refine cut_at ?_
  rcases (by omega : z = 0 ∨ z = 1 ∨ z = 2 ∨ z = 3) with rfl | rfl | rfl | rfl <;> simp [znL, Lib.index, List.isPrefixOf]
theorem zn_only (z : Nat) (hz : z < 4) : Lib.cut (znL z) [32, 119, 105, 116, 104, 32] = (znL z, [], false) := by
  refine cut_none ?_
  rcases (by omega : z = 0 ∨ z = 1 ∨ z = 2 ∨ z = 3) with rfl | rfl | rfl | rfl <;> simp [znL, Lib.index, List.isPrefixOf]
theorem st_list (s : Nat) (hs : s < 5) : (stN (s : Int)).data.toList = stL s ∧ Lib.idxOfS stNs ⟨(stL s).toArray⟩ = (s : Int) := by
  rcases (by omega : s = 0 ∨ s = 1 ∨ s = 2 ∨ s = 3 ∨ s = 4) with rfl | rfl | rfl | rfl | rfl <;> exact ⟨rfl, by decide⟩
theorem zn_list (z : Nat) (hz : z < 4) : (znN (z : Int)).data.toList = znL z ∧ Lib.idxOfS znNs ⟨(znL z).toArray⟩ = (z : Int) := by
  rcases (by omega : z = 0 ∨ z = 1 ∨ z = 2 ∨ z = 3) with rfl | rfl | rfl | rfl <;> exact ⟨rfl, by decide⟩
theorem ba_of (s : ByteArray) : (⟨s.data.toList.toArray⟩ : ByteArray) = s := by
  apply ByteArray.ext; simp
theorem gtx_list (s z : Nat) (fo fa : Int) (hs : s < 5) (hz : z < 4) : (gtxF ⟨(s : Int), (z : Int), fo, fa⟩).data.toList = if s = 2 then stL s ++ [32, 105, 110, 32] ++ (znL z ++ [32, 119, 105, 116, 104, 32] ++ (numB fo).data.toList) else stL s ++ [32, 105, 110, 32] ++ znL z := by
  have h1 := (st_list s hs).1; have h2 := (zn_list z hz).1
  unfold gtxF gtxH
  show (if (s : Int) = 2 then stN (s : Int) ++ inT ++ znN (z : Int) ++ (withT ++ numB fo) else stN (s : Int) ++ inT ++ znN (z : Int)).data.toList = _
  by_cases h : s = 2
  · subst h
    rw [if_pos rfl, if_pos (by omega)]
    simp only [ByteArray.data_append, Array.toList_append, h1, h2]
    simp [inT, withT]
  · rw [if_neg (by omega), if_neg (by omega)]
    simp only [ByteArray.data_append, Array.toList_append, h1, h2]
    simp [inT]
theorem grip_parts {g : GripState} (h : gripB g = true) : ∃ s z : Nat, s < 5 ∧ z < 4 ∧ g.state = s ∧ g.zone = z ∧ 0 ≤ g.force ∧ g.force ≤ 2000 ∧ (¬ s = 2 → g.force = 0) := by
  have hn := gripB_nums h
  obtain ⟨s, hs⟩ := Int.eq_ofNat_of_zero_le hn.1.1
  obtain ⟨z, hz⟩ := Int.eq_ofNat_of_zero_le hn.2.1.1
  refine ⟨s, z, by omega, by omega, hs, hz, hn.2.2.1, hn.2.2.2, fun h2 => ?_⟩
  have h3 : g.state ≠ 2 := by omega
  have h4 := h
  simp only [gripB, Bool.and_eq_true] at h4
  have h5 := h4.2.2.2.2
  simp only [gripR, Bool.and_eq_true, Bool.or_eq_true, decide_eq_true_eq] at h5
  have := hn.2.2
  omega
theorem pg_text {g : GripState} (h : gripB g = true) (hf : g.fails = 0) : pgG (gtxF g) = g := by
  obtain ⟨s, z, hs, hz, es, ez, f0, f1, f2⟩ := grip_parts h
  obtain ⟨st, zo, fo, fa⟩ := g
  simp only at es ez f0 f1 f2 hf
  subst es ez hf
  have hl := gtx_list s z fo 0 hs hz
  have hi : inT.data.toList = [32, 105, 110, 32] := rfl
  have hw : withT.data.toList = [32, 119, 105, 116, 104, 32] := rfl
  unfold pgG
  rw [hl, hi, hw]
  by_cases h2 : s = 2
  · rw [if_pos h2, st_cut s hs]
    simp only
    rw [zn_cut z hz]
    simp only
    rw [(st_list s hs).2, (zn_list z hz).2, ba_of, piV_num f0 (by omega)]
  · rw [if_neg h2, st_cut s hs]
    simp only
    rw [zn_only z hz]
    simp only
    rw [(st_list s hs).2, (zn_list z hz).2, f2 h2]
    rw [show piV ⟨([] : List UInt8).toArray⟩ = 0 from piV_none]
theorem pg_words {g : GripState} (h : gripB g = true) : (gtxF g).size ≤ 40 ∧ 3 ≤ (splL (gtxF g)).length ∧ (g.state = 2 → (splL (gtxF g))[(splL (gtxF g)).length - 1]? = some (numB g.force)) := by
  obtain ⟨s, z, hs, hz, es, ez, f0, f1, f2⟩ := grip_parts h
  obtain ⟨st, zo, fo, fa⟩ := g
  simp only at es ez f0 f1 f2
  subst es ez
  have hl := gtx_list s z fo fa hs hz
  obtain ⟨n1, n2, n3, n4⟩ := numB_fact f0 (by omega)
  have hsz : (gtxF ⟨(s : Int), (z : Int), fo, fa⟩).size = (gtxF ⟨(s : Int), (z : Int), fo, fa⟩).data.toList.length := by simp
  unfold splL
  rw [hsz, hl]
  by_cases h2 : s = 2
  · subst h2
    rw [if_pos rfl]
    have hb : (⟨(numB fo).data.toList.toArray⟩ : ByteArray) = numB fo := ba_of _
    generalize (numB fo).data.toList = D at *
    have e : ∃ a b c d : ByteArray, spF 32 [] [] (stL 2 ++ [32, 105, 110, 32] ++ (znL z ++ [32, 119, 105, 116, 104, 32] ++ D)) = [a, b, c, d] ++ [⟨D.toArray⟩] := by
      refine ⟨⟨#[115, 104, 117, 116]⟩, ⟨#[105, 110]⟩, ⟨(znL z).toArray⟩, ⟨#[119, 105, 116, 104]⟩, ?_⟩
      refine Eq.trans (b := spF 32 [⟨#[115, 104, 117, 116]⟩, ⟨#[105, 110]⟩, ⟨(znL z).toArray⟩, ⟨#[119, 105, 116, 104]⟩] [] D) ?_ (spF_digits _ _ _ n1)
      rcases (by omega : z = 0 ∨ z = 1 ∨ z = 2 ∨ z = 3) with rfl | rfl | rfl | rfl <;> rfl
    obtain ⟨a, b, c, d, e⟩ := e
    refine ⟨?_, by rw [e]; simp, fun _ => by rw [e, hb]; simp⟩
    rcases (by omega : z = 0 ∨ z = 1 ∨ z = 2 ∨ z = 3) with rfl | rfl | rfl | rfl <;> simp [stL, znL] <;> omega
  · rw [if_neg h2]
    have hc : (stL s ++ [32, 105, 110, 32] ++ znL z).length ≤ 40 ∧ 3 ≤ (spF 32 [] [] (stL s ++ [32, 105, 110, 32] ++ znL z)).length := by
      rcases (by omega : s = 0 ∨ s = 1 ∨ s = 3 ∨ s = 4) with rfl | rfl | rfl | rfl <;>
      rcases (by omega : z = 0 ∨ z = 1 ∨ z = 2 ∨ z = 3) with rfl | rfl | rfl | rfl <;> decide
    exact ⟨hc.1, hc.2, fun h3 => absurd h3 (by simp only; omega)⟩
/- what the reference tries -/
def gS (n st z : Int) : GripState := ⟨st, z, if st = 2 then n else 0, 0⟩
def mtB (s : ByteArray) (n st z : Int) : Bool := gripB (gS n st z) && decide (gtxF (gS n st z) = s)
theorem mt_yes {s : ByteArray} {n st z : Int} (h : mtB s n st z = true) : pgB s = true ∧ pgV s = gS n st z := by
  simp only [mtB, Bool.and_eq_true, decide_eq_true_eq] at h
  obtain ⟨h1, h2⟩ := h
  have := pg_text h1 rfl
  rw [h2] at this
  have hb : pgB s = true := by simp only [pgB, this, h1, h2, Bool.and_eq_true, decide_eq_true_eq]; exact ⟨trivial, trivial⟩
  exact ⟨hb, by rw [pgV, if_pos hb, this]⟩
theorem mt_no {s : ByteArray} {n : Int} (hn : ∀ m : Int, 0 ≤ m → m ≤ 999999 → (splL s)[(splL s).length - 1]? = some (numB m) → n = m) (h : ∀ st z : Nat, st < 5 → z < 4 → mtB s n st z = false) : pgB s = false := by
  cases hb : pgB s
  · rfl
  · simp only [pgB, Bool.and_eq_true, decide_eq_true_eq] at hb
    obtain ⟨h1, h2⟩ := hb
    obtain ⟨st, z, hs, hz, es, ez, f0, f1, f2⟩ := grip_parts h1
    have hw := (pg_words h1).2.2
    rw [h2] at hw
    have hg : gS n st z = pgG s := by
      have hfa : (pgG s).fails = 0 := rfl
      generalize pgG s = g at *
      obtain ⟨a, b, c, d⟩ := g
      simp only at es ez f0 f1 f2 hfa hw
      subst es ez hfa
      by_cases h3 : (st : Int) = 2
      · have := hn c f0 (by omega) (hw h3)
        simp [gS, h3, this]
      · simp [gS, h3, f2 (by omega)]
    have := h st z hs hz
    rw [mtB, hg, h1, h2] at this
    simp at this
theorem pg_small {s : ByteArray} (h : pgB s = true) : s.size ≤ 40 ∧ 3 ≤ (splL s).length := by
  simp only [pgB, Bool.and_eq_true, decide_eq_true_eq] at h
  obtain ⟨h1, h2⟩ := h
  have := pg_words h1
  rw [h2] at this
  exact ⟨this.1, this.2.1⟩
theorem pgV_no {s : ByteArray} (h : pgB s = false) : pgV s = ⟨0, 0, 0, 0⟩ := by rw [pgV, h]; rfl
end Go.Proofs.YtkdnkhbcbcffeaaDoor
