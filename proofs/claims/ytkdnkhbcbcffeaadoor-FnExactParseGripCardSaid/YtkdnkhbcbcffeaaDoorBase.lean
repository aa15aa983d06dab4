/- Small lemmas on worlds, slices that read as lists, rows that a call owns, and regions that draw their order beside calls that make memory. No condition. -/
import Derived.WalkKit
import Derived.WalkSpells
import Derived.WalkLawsBesides
import Derived.Lib.Hide
import Derived.Deep.MidRow
import Derived.BigQuiet
import Derived.OwnWalk
import Derived.Deep.AppendLies
import Derived.StillTailTactics
namespace Go.Proofs.YtkdnkhbcbcffeaaDoor
open Go Go.RowKit

theorem ret_bool {a b : Bool} (h : a = b) : Ending.returned (.bool a) = .returned (.bool b) := by rw [h]
theorem ret_int {k : IntKind} {a b : Int} (h : a = b) : Ending.returned (.int k a) = .returned (.int k b) := by rw [h]
theorem ret_str {a b : ByteArray} (h : a = b) : Ending.returned (.string a) = .returned (.string b) := by rw [h]
theorem ret_2 {a b c d : Value} (h : a = c) (h' : b = d) : Ending.returned (.tuple #[a, b]) = .returned (.tuple #[c, d]) := by rw [h, h']
theorem ret_3 {a b c a' b' c' : Value} (h : a = a') (h' : b = b') (h'' : c = c') : Ending.returned (.tuple #[a, b, c]) = .returned (.tuple #[a', b', c']) := by rw [h, h', h'']
theorem sl_eq {A : Option Addr} {n m c : Nat} (h : n = m) : Value.slice A n c = .slice A m c := by rw [h]
theorem bo_eq {a b : Bool} (h : a = b) : Value.bool a = .bool b := by rw [h]
theorem in_eq {k : IntKind} {a b : Int} (h : a = b) : Value.int k a = .int k b := by rw [h]
theorem st_eq {a b : ByteArray} (h : a = b) : Value.string a = .string b := by rw [h]
theorem below_next {B : Nat} {a b c : World} {o : Obj} (h : Below B a b) (k : Below (b.alloc o).heap.size (b.alloc o) c) (hB : B ≤ a.heap.size) : Below B a c :=
  h.trans ((((Below.refl _ _).alloc (Nat.le_refl _) o).trans (k.mono (by simp))).mono (Nat.le_trans hB h.size))
theorem hide {p : Prop} (h : p) : Hid p := h

/- worlds that part from w in new blocks alone -/
def After (w : World) : Type := { w' : World // Below w.heap.size w w' }
instance after_nonempty (w : World) : Nonempty (After w) := ⟨⟨w, Below.refl _ _⟩⟩

section
variable {P : Program}

theorem wp_region_after {id : Nat} {Q : Exit → Act → World → Prop} {a : Act} {w : World} {l : List Oper} (hm : P.follows .mixedOrders = true) (hB : Region.lexB .any l.toArray = true)
    (h : wpQuiet P l.toArray (fun w' => ∃ d : After w, w' = d.1) (fun a' => ∀ w', (∃ d : After w, w' = d.1) → Q .normal a' w') l a) : (Code.region id l.toArray true).wp P Q a w :=
  wp_region_quiet (C := fun w' => ∃ d : After w, w' = d.1) hm hB ⟨⟨_, (Below.refl w.heap.size w).drew⟩, rfl⟩ (by simpa using h)

/- a region whose first n operations read alone, and whose tail is forced -/
theorem wp_region_tail {id : Nat} {Q : Exit → Act → World → Prop} {a : Act} {w : World} {l : List Oper} (n : Nat) (hm : P.follows .mixedOrders = true) (hB : Region.lexTailB .any l.toArray n = true)
    (h : wpStill P l.toArray w.drew (fun a' => wpList P l.toArray Q (l.drop n) a' w.drew) (l.take n) a) : (Code.region id l.toArray true).wp P Q a w := wp_region_still_tail n hm hB h
theorem Calls.still {f : FuncId} {args : Array Value} {w : World} {v : Value} (h : Calls P f args w fun e w' => e = .returned v ∧ w = w') : Calls P f args w fun e w' => e = .returned v ∧ w' = w :=
  h.mono fun _ _ ⟨he, hb⟩ => ⟨he, hb.symm⟩

theorem Calls.after {f : FuncId} {args : Array Value} {w : World} {d : After w} {v : Value} (h : Calls P f args d.1 fun e w' => e = .returned v ∧ Below d.1.heap.size d.1 w') :
    Calls P f args d.1 fun e w'' => e = .returned v ∧ ∃ d' : After w, w'' = d'.1 :=
  h.mono fun _ w' ⟨he, hb⟩ => ⟨he, ⟨w', d.2.trans (hb.mono d.2.size)⟩, rfl⟩

theorem Calls.after_same {f : FuncId} {args : Array Value} {w : World} {d : After w} {v : Value} (h : Calls P f args d.1 fun e w' => e = .returned v ∧ d.1 = w') :
    Calls P f args d.1 fun e w'' => e = .returned v ∧ ∃ d' : After w, w'' = d'.1 :=
  h.mono fun _ _ ⟨he, hb⟩ => ⟨he, d, hb.symm⟩

theorem Calls.below_of_same {f : FuncId} {args : Array Value} {w : World} {v : Value} (h : Calls P f args w fun e w' => e = .returned v ∧ w = w') :
    Calls P f args w fun e w' => e = .returned v ∧ Below w.heap.size w w' :=
  h.mono fun _ _ ⟨he, hb⟩ => ⟨he, hb ▸ Below.refl _ _⟩
end

theorem after_cell {w : World} {a : Addr} {v : Value} (h : w.cell? a = some v) (d : After w) : d.1.cell? a = some v :=
  (d.2.cell (World.block_lt_of_cell? w a h)).trans h
theorem after_alloc {w : World} {a : Addr} {v : Value} (o : Obj) (h : w.cell? a = some v) (d : After (w.alloc o)) : d.1.cell? a = some v :=
  after_cell ((World.cell?_alloc_lt w o a (World.block_lt_of_cell? w a h)).trans h) d
theorem cell_new (W : World) (cs : Array Value) (t : TypeId) (g j : Nat) (v : Value) (hg : W.heap.size = g) (hv : cs[j]? = some v) : (W.alloc (.cells cs t)).cell? ⟨g, j, none⟩ = some v := by
  subst hg; rw [cell_of_row _ _ j cs t (0, 0) (heap_alloc_new W _), hv]
theorem below_cell {w w' : World} {a : Addr} {v : Value} (hb : Below w.heap.size w w') (h : w.cell? a = some v) : w'.cell? a = some v :=
  (hb.cell (World.block_lt_of_cell? w a h)).trans h
theorem below_frozen {w w' : World} {a : Addr} {v : Value} (hb : Below w.heap.size w w') (h : w.cell? a = some v) (hf : w.frozen? a = false) : w'.frozen? a = false :=
  (hb.frozen (World.block_lt_of_cell? w a h)).trans hf
theorem below_step {B : Nat} {a b c : World} (h : Below B a b) (k : Below b.heap.size b c) (hB : B ≤ a.heap.size) : Below B a c :=
  h.trans (k.mono (Nat.le_trans hB h.size))
theorem below_new {w w' : World} {o : Obj} (h : Below (w.heap.size + 1) (w.alloc o) w') : Below w.heap.size w w' :=
  ((Below.refl _ _).alloc (Nat.le_refl _) _).trans (h.mono (by omega))
theorem below_new' {w w' : World} {o : Obj} (h : Below (w.alloc o).heap.size (w.alloc o) w') : Below w.heap.size w w' :=
  ((Below.refl _ _).alloc (Nat.le_refl _) _).trans (h.mono (by simp))

/- a check of all places of a list -/
def allAt (p : Nat → Bool) (n : Nat) : Bool := (List.range n).all p
theorem allAt_no {p : Nat → Bool} {n k : Nat} (h : k < n) (hp : p k = false) : allAt p n = false := by
  unfold allAt; rw [List.all_eq_false]; exact ⟨k, List.mem_range.2 h, by simp [hp]⟩
theorem allAt_yes {p : Nat → Bool} {n k : Nat} (h : n ≤ k) (hp : ∀ j, j < k → p j = true) : allAt p n = true := by
  unfold allAt; rw [List.all_eq_true]; intro x hx; exact hp x (by have := List.mem_range.1 hx; omega)
theorem allAt_at {p : Nat → Bool} {n k : Nat} (h : allAt p n = true) (hk : k < n) : p k = true := by
  unfold allAt at h; rw [List.all_eq_true] at h; exact h k (List.mem_range.2 hk)
theorem upto_step {p : Nat → Bool} {k : Nat} (h : ∀ j, j < k → p j = true) (hk : p k = true) : ∀ j, j < k + 1 → p j = true := fun j hj => by
  rcases Nat.lt_or_eq_of_le (Nat.lt_succ_iff.1 hj) with h1 | h1
  · exact h j h1
  · rw [h1]; exact hk

/- a function with a body of its own is entered, whatever it is given -/
def EntersF (P : Program) (f : FuncId) : Prop := ∀ (args : Array Value) (w : World), (callFunc f args).run P w = .ok (.enter f args) w
theorem entersF {P : Program} {f : FuncId} {fn : Func} {c : Code} (h1 : P.funcs[f]? = some fn) (h2 : (fn.name == "runtime.NumGoroutine") = false) (h3 : fn.body = some c) : EntersF P f := by
  intro args w
  have h4 : fn.name ≠ "runtime.NumGoroutine" := by simpa using h2
  simp [callFunc, h1, h4, h3, mark]

/- the first place at which a predicate holds, or -1 -/
def idxF {α : Type} (p : α → Bool) (L : List α) : Int := match L.findIdx? p with
  | some i => (i : Int)
  | none => -1
theorem idxF_hit {α : Type} {p : α → Bool} {L : List α} {k : Nat} {c : α} (hk : L[k]? = some c) (hp : p c = true) (hn : ∀ (j : Nat) (d : α), j < k → L[j]? = some d → p d = false) : idxF p L = k := by
  have h : L.findIdx? p = some k := by
    obtain ⟨hlt, he⟩ := List.getElem?_eq_some_iff.1 hk
    rw [List.findIdx?_eq_some_iff_getElem]
    refine ⟨hlt, by rw [he]; exact hp, fun j hj => ?_⟩
    rw [hn j _ hj (List.getElem?_eq_getElem (by omega))]
    simp
  simp [idxF, h]
theorem idxF_none {α : Type} {p : α → Bool} {L : List α} (hn : ∀ (j : Nat) (d : α), j < L.length → L[j]? = some d → p d = false) : idxF p L = -1 := by
  have h : L.findIdx? p = none := by
    rw [List.findIdx?_eq_none_iff]
    intro x hx
    obtain ⟨j, hj, rfl⟩ := List.mem_iff_getElem.1 hx
    exact hn j _ hj (List.getElem?_eq_getElem hj)
  simp [idxF, h]
theorem idxF_cases {α : Type} (p : α → Bool) (L : List α) :
    (idxF p L = -1 ∧ L.any p = false) ∨ ∃ (k : Nat) (c : α), idxF p L = k ∧ k < L.length ∧ L[k]? = some c ∧ p c = true ∧ L.any p = true ∧ ∀ (j : Nat) (d : α), j < k → L[j]? = some d → p d = false := by
  cases h : L.findIdx? p with
  | none =>
    left
    refine ⟨by simp [idxF, h], ?_⟩
    rw [List.findIdx?_eq_none_iff] at h
    rw [List.any_eq_false]
    intro x hx
    simp [h x hx]
  | some k =>
    right
    rw [List.findIdx?_eq_some_iff_getElem] at h
    obtain ⟨hlt, hp, hn⟩ := h
    refine ⟨k, L[k], ?_, hlt, List.getElem?_eq_getElem hlt, hp, ?_, fun j d hj hd => ?_⟩
    · exact idxF_hit (List.getElem?_eq_getElem hlt) hp (fun j d hj hd => by
        obtain ⟨hjl, rfl⟩ := List.getElem?_eq_some_iff.1 hd
        simpa using hn j hj)
    · rw [List.any_eq_true]; exact ⟨_, List.getElem_mem hlt, hp⟩
    · obtain ⟨hjl, rfl⟩ := List.getElem?_eq_some_iff.1 hd
      simpa using hn j hj
theorem no_step {α : Type} {p : α → Bool} {L : List α} {k : Nat} {c : α} (h : ∀ (j : Nat) (d : α), j < k → L[j]? = some d → p d = false) (hk : L[k]? = some c) (hc : p c = false) : ∀ (j : Nat) (d : α), j < k + 1 → L[j]? = some d → p d = false := fun j d hj hd => by
  rcases Nat.lt_or_eq_of_le (Nat.lt_succ_iff.1 hj) with h1 | h1
  · exact h j d h1 hd
  · subst h1
    rw [hk] at hd
    injection hd with hd
    rw [← hd]; exact hc

/- a list each of whose things is good and stands rightly behind the one before it -/
def riseAt {α : Type} (one : α → Bool) (lt : α → α → Bool) (L : List α) (i : Nat) : Bool := match L[i]? with
  | none => true
  | some c => one c && (decide (i = 0) || match L[i - 1]? with
    | none => true
    | some d => lt d c)
def riseB {α : Type} (one : α → Bool) (lt : α → α → Bool) (max : Nat) (L : List α) : Bool := allAt (riseAt one lt L) L.length && decide (L.length ≤ max)
section
variable {α : Type} {one : α → Bool} {lt : α → α → Bool} {max : Nat} {L : List α} {k : Nat} {c d : α}
theorem rise_bad (h : L[k]? = some c) (hc : one c = false) : riseAt one lt L k = false := by simp [riseAt, h, hc]
theorem rise_low (h : L[k]? = some c) (hd : L[k - 1]? = some d) (hk : 0 < k) (hc : lt d c = false) : riseAt one lt L k = false := by
  simp only [riseAt, h, hd, hc, Bool.or_false, Bool.and_eq_false_iff, decide_eq_false_iff_not]
  right; omega
theorem rise_first (h : L[0]? = some c) (hc : one c = true) : riseAt one lt L 0 = true := by simp [riseAt, h, hc]
theorem rise_next (h : L[k]? = some c) (hd : L[k - 1]? = some d) (hc : one c = true) (hlt : lt d c = true) : riseAt one lt L k = true := by simp [riseAt, h, hd, hc, hlt]
theorem riseB_no (h : k < L.length) (hp : riseAt one lt L k = false) : riseB one lt max L = false := by simp [riseB, allAt_no h hp]
theorem riseB_all (h : L.length ≤ k) (hp : ∀ j, j < k → riseAt one lt L j = true) : riseB one lt max L = decide (L.length ≤ max) := by simp [riseB, allAt_yes h hp]
theorem riseB_one (h : riseB one lt max L = true) : ∀ (k : Nat) (c : α), L[k]? = some c → one c = true := by
  intro k c hk
  simp only [riseB, Bool.and_eq_true] at h
  have := allAt_at h.1 (List.getElem?_eq_some_iff.1 hk).1
  simp only [riseAt, hk, Bool.and_eq_true] at this
  exact this.1
theorem riseB_lt (h : riseB one lt max L = true) {d : α} (hd : L[k]? = some d) (hc : L[k + 1]? = some c) : lt d c = true := by
  simp only [riseB, Bool.and_eq_true] at h
  have := allAt_at h.1 (List.getElem?_eq_some_iff.1 hc).1
  simp only [riseAt, hc, hd, Nat.add_sub_cancel, Bool.and_eq_true, Bool.or_eq_true, decide_eq_true_eq] at this
  rcases this.2 with h | h
  · omega
  · exact h
theorem riseB_len (h : riseB one lt max L = true) : L.length ≤ max := by
  simp only [riseB, Bool.and_eq_true] at h
  simpa using h.2
end

/- a slice that reads as a list of things, each of sz cells -/
def Rd {α : Type} (enc : α → List Value) (sz B : Nat) (w : World) (A : Option Addr) (L : List α) : Prop :=
  L = [] ∨ ∃ b o, A = some ⟨b, o, none⟩ ∧ b < B ∧ ∀ (k : Nat) (c : α), L[k]? = some c → w.rangeAt b (o + k * sz) (enc c)

section
variable {α : Type} {enc : α → List Value} {sz B : Nat} {w w' : World} {A : Option Addr} {L : List α}
theorem Rd.nil : Rd enc sz B w A [] := .inl rfl
theorem Rd.keep (h : Rd enc sz B w A L) (hk : ∀ p : Addr, p.block < B → w'.cell? p = w.cell? p) : Rd enc sz B w' A L := by
  rcases h with h | ⟨b, o, hA, hb, hc⟩
  · exact .inl h
  · exact .inr ⟨b, o, hA, hb, fun k c hk' j v hv => (hk _ hb).trans (hc k c hk' j v hv)⟩
theorem Rd.below (h : Rd enc sz B w A L) (hb : Below B w w') : Rd enc sz B w' A L := h.keep fun _ hp => hb.cell hp
theorem Rd.more {B' : Nat} (h : Rd enc sz B w A L) (hB : B ≤ B') : Rd enc sz B' w A L := by
  rcases h with h | ⟨b, o, hA, hb, hc⟩
  · exact .inl h
  · exact .inr ⟨b, o, hA, Nat.lt_of_lt_of_le hb hB, hc⟩
theorem Rd.later (h : Rd enc sz w.heap.size w A L) (hb : Below w.heap.size w w') : Rd enc sz w'.heap.size w' A L := (h.below hb).more hb.size
theorem Rd.at_ (h : Rd enc sz B w A L) (hL : L ≠ []) : ∃ b o, A = some ⟨b, o, none⟩ ∧ b < B ∧ ∀ (k : Nat) (c : α), L[k]? = some c → w.rangeAt b (o + k * sz) (enc c) := by
  rcases h with h | h
  · exact absurd h hL
  · exact h
end

/- a row that a call made and that holds a list -/
def Own {α : Type} (enc : α → List Value) (sz : Nat) (T : TypeId) (lo : Nat) (w : World) (v : Value) (L : List α) : Prop :=
  w.ownsRow lo T sz v L.length (L.flatMap enc)

theorem flat_length {α : Type} {enc : α → List Value} {sz : Nat} (he : ∀ c, (enc c).length = sz) (L : List α) : (L.flatMap enc).length = L.length * sz := by
  induction L with
  | nil => simp
  | cons c r ih => simp [he, ih, Nat.add_mul, Nat.add_comm]
theorem flat_get {α : Type} {enc : α → List Value} {sz : Nat} (he : ∀ c, (enc c).length = sz) : ∀ (L : List α) (k : Nat) (c : α), L[k]? = some c → ∀ j v, (enc c)[j]? = some v → (L.flatMap enc)[k * sz + j]? = some v
  | [], k, c, h, _, _, _ => by simp at h
  | x :: r, 0, c, h, j, v, hv => by
    simp at h; subst h
    have hj : j < (enc x).length := (List.getElem?_eq_some_iff.1 hv).1
    rw [List.flatMap_cons, Nat.zero_mul, Nat.zero_add, List.getElem?_append_left hj]; exact hv
  | x :: r, k + 1, c, h, j, v, hv => by
    have := flat_get he r k c (by simpa using h) j v hv
    rw [List.flatMap_cons, List.getElem?_append_right (by rw [he, Nat.add_mul]; omega), he, ← this]
    congr 1
    rw [Nat.add_mul]; omega

theorem rd_flat {α : Type} {enc : α → List Value} {sz : Nat} {w : World} {b : Nat} (he : ∀ c, (enc c).length = sz) : ∀ (L : List α) (o : Nat), (∀ (k : Nat) (c : α), L[k]? = some c → w.rangeAt b (o + k * sz) (enc c)) →
    ∀ (j : Nat) (u : Value), (L.flatMap enc)[j]? = some u → w.cell? ⟨b, o + j, none⟩ = some u
  | [], _, _, j, u, hu => by simp at hu
  | c :: r, o, h, j, u, hu => by
    rw [List.flatMap_cons] at hu
    by_cases hj : j < (enc c).length
    · rw [List.getElem?_append_left hj] at hu
      simpa using h 0 c rfl j u hu
    · rw [List.getElem?_append_right (by omega)] at hu
      have hl := he c
      have := rd_flat he r (o + sz) (fun k d hd => by
        have := h (k + 1) d (by simpa using hd)
        rwa [show o + (k + 1) * sz = o + sz + k * sz by rw [Nat.add_mul]; omega] at this) (j - (enc c).length) u hu
      rwa [show o + sz + (j - (enc c).length) = o + j by omega] at this

section
variable {α : Type} {enc : α → List Value} {sz : Nat} {T : TypeId} {lo : Nat} {w w' : World} {v : Value} {L : List α}
theorem Own.below (h : Own enc sz T lo w v L) (hb : Below w.heap.size w w') : Own enc sz T lo w' v L :=
  World.ownsRow.kept (row := none) h ⟨hb.os, hb.tape, hb.output, hb.size, fun k hk _ => hb.block k hk⟩ (by cases v.ownBlock <;> simp)
theorem Own.rd (he : ∀ c, (enc c).length = sz) (h : Own enc sz T lo w v L) : ∃ A cap, v = .slice A L.length cap ∧ L.length ≤ cap ∧ Rd enc sz w.heap.size w A L := by
  rcases h.2 with ⟨rfl, hn⟩ | ⟨g, cap, cur, rfl, _, hh, hc, _, _, ht⟩
  · have : L = [] := List.eq_nil_of_length_eq_zero hn
    subst this
    exact ⟨none, 0, rfl, Nat.le_refl _, .inl rfl⟩
  · have hg : g < w.heap.size := (Array.getElem?_eq_some_iff.1 hh).1
    refine ⟨_, _, rfl, hc, .inr ⟨g, 0, rfl, hg, fun k c hk j u hu => ?_⟩⟩
    have hx := flat_get he L k c hk j u hu
    rw [Nat.zero_add, cell_of_row w g _ cur T (0, 0) hh, ← Array.getElem?_toList]
    rw [← ht, List.getElem?_take] at hx
    split at hx
    · exact hx
    · cases hx
end
/- rows that are written: the cells of a row, one at a time -/
theorem own_form {lo : Nat} {T : TypeId} {sz : Nat} {w : World} {A : Option Addr} {n cap : Nat} {xs : List Value} (h : w.ownsRow lo T sz (.slice A n cap) n xs) (hn : 0 < n) :
    ∃ g, A = some ⟨g, 0, none⟩ ∧ lo ≤ g ∧ g < w.heap.size := by
  rcases h.2 with ⟨_, h0⟩ | ⟨g, c, cur, hv, hb, hh, _⟩
  · omega
  · injection hv with hA
    exact ⟨g, hA, hb, (Array.getElem?_eq_some_iff.1 hh).1⟩
theorem own_lt {lo : Nat} {T : TypeId} {sz : Nat} {w : World} {g n cap : Nat} {xs : List Value} (h : w.ownsRow lo T sz (.slice (some ⟨g, 0, none⟩) n cap) n xs) : g < w.heap.size :=
  (h.lt g rfl).2
theorem own_set {lo : Nat} {T : TypeId} {sz : Nat} {w : World} {g n cap : Nat} {xs : List Value} (h : w.ownsRow lo T sz (.slice (some ⟨g, 0, none⟩) n cap) n xs) (j : Nat) (u : Value) :
    (w.setCell ⟨g, j, none⟩ u).ownsRow lo T sz (.slice (some ⟨g, 0, none⟩) n cap) n (xs.set j u) := (h.stored j u).1
theorem own_below {lo : Nat} {T : TypeId} {sz : Nat} {w w' : World} {v : Value} {n : Nat} {xs : List Value} (h : w.ownsRow lo T sz v n xs) (hb : Below w.heap.size w w') : w'.ownsRow lo T sz v n xs :=
  World.ownsRow.kept (row := none) h ⟨hb.os, hb.tape, hb.output, hb.size, fun k hk _ => hb.block k hk⟩ (by cases v.ownBlock <;> simp)
theorem own_cell {lo : Nat} {T : TypeId} {sz : Nat} {w : World} {g n cap : Nat} {xs : List Value} (h : w.ownsRow lo T sz (.slice (some ⟨g, 0, none⟩) n cap) n xs) {j : Nat} {u : Value} (hu : xs[j]? = some u) :
    w.cell? ⟨g, j, none⟩ = some u := by
  have hj : j < xs.length := (List.getElem?_eq_some_iff.1 hu).1
  rw [h.cellAt j (by rw [← h.1]; exact hj), hu]
theorem own_there {lo : Nat} {T : TypeId} {sz : Nat} {w : World} {g n cap : Nat} {xs : List Value} (h : w.ownsRow lo T sz (.slice (some ⟨g, 0, none⟩) n cap) n xs) {j : Nat} (hj : j < n * sz) :
    ∃ u, w.cell? ⟨g, j, none⟩ = some u := by
  rw [h.cellAt j hj]
  exact ⟨_, List.getElem?_eq_getElem (by rw [h.1]; exact hj)⟩
theorem grown_set {w w' : World} {g j : Nat} {u : Value} (h : w.grownBy w' (some g)) : w.grownBy (w'.setCell ⟨g, j, none⟩ u) (some g) :=
  ⟨h.os, h.tape, h.output, by simpa [World.setCell] using h.size, fun i hi hne => (Below.heap_setCell _ _ _ _ (fun e => hne (by rw [e]))).trans (h.block i hi hne)⟩
theorem grown_below {w w' w'' : World} {row : Option Nat} (h : w.grownBy w' row) (hb : Below w'.heap.size w' w'') : w.grownBy w'' row :=
  ⟨hb.os.trans h.os, hb.tape.trans h.tape, hb.output.trans h.output, Nat.le_trans h.size hb.size, fun i hi hne => (hb.block i (Nat.lt_of_lt_of_le hi h.size)).trans (h.block i hi hne)⟩
/- a block that is being filled from its head: its first cells are xs -/
def Fill (w : World) (g : Nat) (T : TypeId) (total : Nat) (xs : List Value) : Prop :=
  ∃ cur, w.heap[g]? = some (.cells cur T (0, 0)) ∧ cur.size = total ∧ cur.toList.take xs.length = xs
section
variable {w w' : World} {g total : Nat} {T : TypeId} {xs : List Value}
theorem Fill.new (w : World) (cur : Array Value) (T : TypeId) (h : cur.size = total) : Fill (w.alloc (.cells cur T)) w.heap.size T total [] :=
  ⟨cur, heap_alloc_new w _, h, by simp⟩
theorem Fill.lt (h : Fill w g T total xs) : g < w.heap.size := by
  obtain ⟨_, hh, _⟩ := h
  exact (Array.getElem?_eq_some_iff.1 hh).1
theorem Fill.below (h : Fill w g T total xs) (hb : Below w.heap.size w w') : Fill w' g T total xs := by
  have hg := h.lt
  obtain ⟨cur, hh, r⟩ := h
  exact ⟨cur, (hb.block g hg).trans hh, r⟩
theorem Fill.there_ (h : Fill w g T total xs) {o n : Nat} (hn : o + n ≤ total) : w.there g o n := by
  obtain ⟨cur, hh, hs, _⟩ := h
  intro j hj
  rw [cell_of_row w g _ cur T (0, 0) hh, Array.getElem?_eq_getElem (by omega)]
  exact ⟨rfl, frozen_of_row w g _ cur T hh⟩
theorem Fill.set_ (h : Fill w g T total xs) (hn : xs.length < total) (v : Value) : Fill (w.setCell ⟨g, xs.length, none⟩ v) g T total (xs ++ [v]) := by
  obtain ⟨cur, hh, hs, ht⟩ := h
  refine ⟨cur.setIfInBounds xs.length v, heap_setCell_same w g _ cur T v hh, by simpa using hs, ?_⟩
  have hl : xs.length < cur.toList.length := by simpa [hs] using hn
  rw [Array.toList_setIfInBounds, List.length_append, List.length_singleton, List.take_succ_eq_append_getElem (by simpa [hs] using hn), List.take_set_of_le (Nat.le_refl _), ht]
  simp
theorem Fill.store : ∀ (vs : List Value) {w : World} {xs : List Value}, Fill w g T total xs → xs.length + vs.length ≤ total → Fill (w.setCells g xs.length vs) g T total (xs ++ vs)
  | [], w, xs, h, _ => by simpa [World.setCells] using h
  | v :: r, w, xs, h, hn => by
    have h1 := h.set_ (by simp at hn; omega) v
    have h2 := Fill.store r h1 (by simp at hn ⊢; omega)
    rw [World.setCells]
    simpa using h2
theorem below_setCells {B : Nat} {a : World} (g : Nat) (hg : B ≤ g) : ∀ (vs : List Value) (o : Nat) (w : World), Below B a w → Below B a (w.setCells g o vs)
  | [], _, _, h => h
  | v :: r, o, w, h => by
    rw [World.setCells]
    exact below_setCells g hg r (o + 1) _ (h.setCell hg v)
theorem Fill.own {lo sz n : Nat} (h : Fill w g T (n * sz) xs) (hx : xs.length = n * sz) (hlo : lo ≤ g) (hn : n ≤ maxLen) : w.ownsRow lo T sz (.slice (some ⟨g, 0, none⟩) n n) n xs := by
  obtain ⟨cur, hh, hs, ht⟩ := h
  exact ⟨hx, .inr ⟨g, n, cur, rfl, hlo, hh, Nat.le_refl _, hn, hs, by rw [← hx]; exact ht⟩⟩
end
theorem run_make_rowN {P : Program} (t e : TypeId) (i : TypeInfo) (z : Value) (ht : P.underlying t = some (.slice e)) (hi : P.info? e = some i) (hz : i.zero = some z)
    (kl kc : IntKind) (n c : Nat) (hnc : n ≤ c) (hbytes : i.bytes * c ≤ 281474976710656) (h63 : c ≤ 9223372036854775807) (w : World) :
    (Instr.makeSlice t (.int kl (n : Int)) (.int kc (c : Int))).run P w = .ok (.slice (some ⟨w.heap.size, 0, none⟩) n c) (w.alloc (.cells (madeCells z.cells (c * i.size)) e)) := by
  have hb : (i.bytes : Int) * (c : Int) ≤ 281474976710656 := by
    have h : ((i.bytes * c : Nat) : Int) ≤ 281474976710656 := by omega
    rwa [Int.natCast_mul] at h
  have hr := run_make (P := P) w t e i z ht hi hz kl kc n c (by omega) (by omega) hb (by omega)
  simp only [Int.toNat_natCast] at hr
  exact hr
/- one thing is appended to a row of the call's own: it lies in a new block of its own -/
theorem wpList_push {α : Type} {enc : α → List Value} {sz : Nat} {P : Program} (w : World) {ops : Array Oper} {rest : List Oper} {o : Oper} {a : Act} {Q : Exit → Act → World → Prop} (hgd : o.guard = none) (s x : Operand) (t e : TypeId)
    (ho : o.op = .call { callee := .builtin .append, args := #[s, x], argTypes := #[t, t] }) (ht : P.underlying t = some (.slice e)) {z : Value} {bytes : Nat}
    (hinfo : (P.info? e).map (fun i => (i.zero, i.size, i.bytes)) = some (some z, sz, bytes)) (hzs : z.cells.size = sz) (hsz : 0 < sz) (hby : bytes ≤ 1000)
    (he : ∀ c, (enc c).length = sz) (h1 : ∀ c, ∀ u ∈ enc c, u.oneCell' = true)
    (lo : Nat) (A : Option Addr) (cap : Nat) (L : List α) (c : α) (cs : Array Value) (hcs : cs.toList = enc c)
    (hs : a.eval s = .slice A L.length cap) (nb : Nat) (hx : a.eval x = .slice (some ⟨nb, 0, none⟩) 1 1) (hnb : w.heap.size = nb) (hown : Own enc sz e lo w (.slice A L.length cap) L) (hlo : lo ≤ w.heap.size) (hn : L.length ≤ 100000000)
    (h : ∀ A' cap' w', Own enc sz e lo w' (.slice A' (L.length + 1) cap') (L ++ [c]) → Below lo w w' → wpList P ops Q rest (a.put o.dst (.slice A' (L.length + 1) cap')) w') :
    wpList P ops Q (o :: rest) a (w.alloc (.cells cs e)) := by
  subst hnb
  obtain ⟨i, hi, hz, hsi, hbi⟩ := info_parts hinfo
  refine wpList_append_own _ hgd s x t ho lo e i z sz bytes ht hi hz hsi hbi hzs hsz _ L.length (L.flatMap enc) hs (World.ownsRow.alloc hown _) ⟨w.heap.size, 0, none⟩ 1 1 (enc c) hx (by rw [he, Nat.one_mul]) ?_ (h1 c) (by unfold maxLen; omega) ?_ (by simp; omega) ?_
  · intro j u hu
    rw [Addr.add_mid, Nat.zero_add, cell_of_row _ _ j cs e (0, 0) (heap_alloc_new w _), ← Array.getElem?_toList, hcs, hu]
  · calc (L.length + 1) * bytes ≤ 100000001 * 1000 := Nat.mul_le_mul (by omega) hby
      _ ≤ 140737488355328 := by decide
  · intro v' w' ho' hg hnil
    have hb : Below lo w w' := ((Below.refl lo w).alloc hlo _).grown hg (by simp; omega) (fun k hk => by
      rcases hown.lt k hk with ⟨h3, _⟩
      exact h3)
    have hex : ∃ A' cap', v' = .slice A' (L.length + 1) cap' := by
      rcases ho'.2 with ⟨hv, hn0⟩ | ⟨g, cap', _, hv, _⟩
      · omega
      · exact ⟨_, _, hv⟩
    obtain ⟨A', cap', rfl⟩ := hex
    refine h A' cap' w' ?_ hb
    unfold Own
    rw [List.length_append, List.flatMap_append]
    simpa using ho'
theorem own_nil {α : Type} {enc : α → List Value} {sz : Nat} (T : TypeId) (lo : Nat) (w : World) : Own enc sz T lo w (.slice none 0 0) [] := World.ownsRow_nil w lo T sz
/- an empty literal of a slice lies in a new block without cells -/
theorem own_empty {α : Type} {enc : α → List Value} {sz : Nat} {T : TypeId} {lo : Nat} {w : World} (hlo : lo ≤ w.heap.size) :
    Own enc sz T lo (w.alloc (.cells #[] T)) (.slice (some ⟨w.heap.size, 0, none⟩) 0 0) ([] : List α) :=
  ⟨by simp, .inr ⟨w.heap.size, 0, #[], rfl, hlo, heap_alloc_new w _, Nat.le_refl _, by simp [maxLen], by simp, by simp⟩⟩
theorem Own.rd_of {α : Type} {enc : α → List Value} {sz : Nat} {T : TypeId} {lo : Nat} {w : World} {A : Option Addr} {n cap : Nat} {L : List α} (he : ∀ c, (enc c).length = sz) (h : Own enc sz T lo w (.slice A n cap) L) :
    Rd enc sz w.heap.size w A L := by
  obtain ⟨A', cap', hv, _, hr⟩ := Own.rd he h
  injection hv with h1 h2 h3
  subst h1
  exact hr
/- what a call hands back that makes a slice: its value, that it is owned, what became of the world -/
def Gives (n : Nat) (mk : Value → Value) (own : World → Value → Prop) (w : World) (e : Ending) (w' : World) : Prop :=
  ∃ A cap, e = .returned (mk (.slice A n cap)) ∧ own w' (.slice A n cap) ∧ Below w.heap.size w w'
/- two rows that were made one behind the other never share a block -/
theorem own_apart {lo1 lo2 T1 T2 s1 s2 n1 n2 : Nat} {w1 w2 : World} {v1 v2 : Value} {x1 x2 : List Value} (h1 : w1.ownsRow lo1 T1 s1 v1 n1 x1) (h2 : w2.ownsRow lo2 T2 s2 v2 n2 x2) (h : w1.heap.size ≤ lo2) :
    (v1.ownBlock = none ∨ v1.ownBlock ≠ v2.ownBlock) ∧ (v2.ownBlock = none ∨ v2.ownBlock ≠ v1.ownBlock) := by
  have a := h1.lt
  have b := h2.lt
  cases e1 : v1.ownBlock with
  | none => exact ⟨.inl rfl, by cases e2 : v2.ownBlock <;> simp⟩
  | some k =>
    cases e2 : v2.ownBlock with
    | none => exact ⟨.inr (by simp), .inl rfl⟩
    | some j =>
      have := (a k e1).2
      have := (b j e2).1
      exact ⟨.inr (by simp; omega), .inr (by simp; omega)⟩
theorem take_snocL {α : Type} (L : List α) (k : Nat) (h : k < L.length) : L.take (k + 1) = L.take k ++ [L[k]] := List.take_succ_eq_append_getElem h
theorem set_mid {α : Type} (A C : List α) (b u : α) (n : Nat) (h : A.length = n) : (A ++ b :: C).set n u = A ++ u :: C := by
  subst h; simp
end Go.Proofs.YtkdnkhbcbcffeaaDoor
