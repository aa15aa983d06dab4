/- The law FnExactGripText: for every input its call returns true and changes nothing that was there. No condition. -/
import Derived.Test.YtkdnkhbcbcffeaaDoorNames
import Derived.Test.YtkdnkhbcbcffeaaDoorOpen
import Derived.Test.YtkdnkhbcbcffeaaDoorCards
import Derived.Test.YtkdnkhbcbcffeaaDoorTie
import Derived.ProofKit
import Derived.OpenShut
import Derived.Deep.DeepHandedRow
import Derived.Lib.LaidTab
import Derived.Stop.LaidErr
import Derived.MakeChecks
import Derived.OpenVars
namespace Go.Proofs.YtkdnkhbcbcffeaaDoor.lawExactGripText
open Go Go.RowKit
set_option linter.unusedVariables false
set_option maxRecDepth 100000 in
set_option maxHeartbeats 2000000 in
theorem walk (a0 : GripState) (w : World) (ok0 : a0.Ok) (f0 : a0.Fits) (ht : Tab10 w) (hn : NamesIs w) :
    Calls Tryd.prog 3 #[.agg #[.int .i64 a0.state, .int .i64 a0.zone, .int .i64 a0.force, .int .i64 a0.fails]] w fun e w' => e = .returned (.bool true) ∧ Below w.heap.size w w' := by
  have B0 : Below w.heap.size w (w.alloc (.cells #[.int .i64 a0.state, .int .i64 a0.zone, .int .i64 a0.force, .int .i64 a0.fails] 23)) := (Below.refl _ _).alloc (Nat.le_refl _) _
  have k0_0 : (w.alloc (.cells #[.int .i64 a0.state, .int .i64 a0.zone, .int .i64 a0.force, .int .i64 a0.fails] 23)).cell? ⟨w.heap.size, 0, none⟩ = some (.int .i64 a0.state) := by simp
  have k0_1 : (w.alloc (.cells #[.int .i64 a0.state, .int .i64 a0.zone, .int .i64 a0.force, .int .i64 a0.fails] 23)).cell? ⟨w.heap.size, 1, none⟩ = some (.int .i64 a0.zone) := by simp
  have k0_2 : (w.alloc (.cells #[.int .i64 a0.state, .int .i64 a0.zone, .int .i64 a0.force, .int .i64 a0.fails] 23)).cell? ⟨w.heap.size, 2, none⟩ = some (.int .i64 a0.force) := by simp
  have k0_3 : (w.alloc (.cells #[.int .i64 a0.state, .int .i64 a0.zone, .int .i64 a0.force, .int .i64 a0.fails] 23)).cell? ⟨w.heap.size, 3, none⟩ = some (.int .i64 a0.fails) := by simp
  go_enter Tryd.func3, Tryd.ntmps3
  go_wp2_with fail
  refine (GripState.to_any a0 _).mono ?_
  rintro e w1 ⟨rfl, b1⟩
  have B1 : Below w.heap.size w w1 := below_step B0 b1 (Nat.le_refl _)
  have S1 := B1.size
  have T1 : w.heap.size < w1.heap.size := by have hT := b1.size; simp at hT; omega
  replace k0_0 := below_cell b1 k0_0
  replace k0_1 := below_cell b1 k0_1
  replace k0_2 := below_cell b1 k0_2
  replace k0_3 := below_cell b1 k0_3
  go_wp2_with fail
  refine (GripText_spec _ _).mono ?_
  rintro e w2 ⟨rfl, b2⟩
  have B2 : Below w.heap.size w w2 := below_step B1 b2 (Nat.le_refl _)
  have S2 := b2.size
  replace k0_0 := below_cell b2 k0_0
  replace k0_1 := below_cell b2 k0_1
  replace k0_2 := below_cell b2 k0_2
  replace k0_3 := below_cell b2 k0_3
  go_wp2_with fail
  refine (GripState.to_any a0 _).mono ?_
  rintro e w3 ⟨rfl, b3⟩
  have B3 : Below w.heap.size w w3 := below_step B2 b3 (Nat.le_refl _)
  have S3 := b3.size
  replace k0_0 := below_cell b3 k0_0
  replace k0_1 := below_cell b3 k0_1
  replace k0_2 := below_cell b3 k0_2
  replace k0_3 := below_cell b3 k0_3
  go_wp2_with fail
  refine (GripText_any _ _ (ht.below B3) (hn.below B3)).mono ?_
  rintro e w4 ⟨rfl, b4⟩
  have B4 : Below w.heap.size w w4 := below_step B3 b4 (Nat.le_refl _)
  have S4 := b4.size
  replace k0_0 := below_cell b4 k0_0
  replace k0_1 := below_cell b4 k0_1
  replace k0_2 := below_cell b4 k0_2
  replace k0_3 := below_cell b4 k0_3
  go_wp2_with fail
  go_ret
  exact ⟨rfl, B4⟩
open Go.ChangeShapes Go.WideShapes Go.ChangeAt Go.RowKit
open Go.ChangeMaps (open_string shut_string)
theorem gT : Tryd.prog.globalNamed "internal/strconv.uint64pow10" = some 5 := by kernel_rfl
theorem gTT : (Tryd.prog.globals[5]?).map (·.type) = some 80 := by kernel_rfl
theorem cT : Tryd.prog.cellsOf 80 = 20 := by kernel_rfl
theorem cE : Tryd.prog.cellsOf 65 = 1 := by kernel_rfl
theorem tab10 {W : World} (h : laidMetH Tryd.prog Rows.fnExactGripTextRow.laid W) : Tab10 W := by
  rw [MakeChecks.laidMetH_plain _ _ _ (by kernel_rfl)] at h
  exact Lib.tabIs_of_head gT gTT Tryd.underlying80 Tryd.underlying65 cE cT (laidMet.tail (laidMet.tail h))
theorem nms {W : World} (h : laidMetH Tryd.prog Rows.fnExactGripTextRow.laid W) : NamesIs W := by
  rw [MakeChecks.laidMetH_plain _ _ _ (by kernel_rfl)] at h
  exact names_of (laidMet.tail (laidMet.tail (laidMet.tail h)))
/- a world for the witness: the settled one, each listed variable's block holding what its initialiser lays -/
def litV {H : Type} : DataW H → Value
  | .lit (.int k n) => .int k n
  | .lit (.string b) => .string ⟨b.toArray⟩
  | _ => .bool false
def cellsD {H : Type} : DataW H → Array Value
  | .agg l => (l.map litV).toArray
  | _ => #[]
def putD (d : DataW Unit) : Obj → Obj
  | .cells _ t frozen => .cells (cellsD d) t frozen
  | o => o
noncomputable def laidWorld (os : Os) : World := { World.holding Tryd.prog os ⟨#[], #[], []⟩ with heap := ((((((World.holding Tryd.prog os ⟨#[], #[], []⟩).heap.modify 6 (putD Rows.laid_math_bits_deBruijn32tab)).modify 7 (putD Rows.laid_math_bits_deBruijn64tab)).modify 5 (putD Rows.laid_internal_strconv_uint64pow10)).modify 0 (putD Rows.laid_loop_example_g00935_impl_gripNames)).modify 1 (putD Rows.laid_loop_example_g00935_impl_zoneNames)) }
theorem laid_met (os : Os) : laidMet Tryd.prog Rows.fnExactGripTextRow.laid ((laidWorld os).forCall (fun _ _ => 0) ⟨#[], #[.agg #[.int .i64 0, .int .i64 0, .int .i64 0, .int .i64 0]], []⟩).memory := laidMet_of_run' 8 (by kernel_rfl) (by kernel_rfl)
theorem reads (os : Os) {H : Type} (enc : TypeId × Value → H) : ∃ places, DataW.whole enc Tryd.prog ((laidWorld os).forCall (fun _ _ => 0) ⟨#[], #[.agg #[.int .i64 0, .int .i64 0, .int .i64 0, .int .i64 0]], []⟩).memory Tryd.f3.params.toList Rows.fnExactGripTextSpec.vars false (#[.agg #[.int .i64 0, .int .i64 0, .int .i64 0, .int .i64 0]] : Array Value).toList 8 = some ([.agg [.lit (.int .i64 0), .lit (.int .i64 0), .lit (.int .i64 0), .lit (.int .i64 0)]], [Rows.laid_loop_example_g00935_impl_gripNames, Rows.laid_loop_example_g00935_impl_zoneNames], places) :=
  ⟨MemPlace.row ⟨0, 0, none⟩ 5 ++ MemPlace.row ⟨1, 0, none⟩ 4, by kernel_rfl⟩
set_option maxRecDepth 100000 in
theorem lifted (os : Os) (started : os.Started) (H : Type) (enc : TypeId × Value → H) (F : Stop.Interp) :
    ReturnsInHanded {} Tryd.checked os 3 .any ((OpenSpec.ofChange Rows.fnExactGripTextSpec).preRow enc Tryd.prog Tryd.f3 Rows.fnExactGripTextRow.domain false Rows.fnExactGripTextRow.laid) (((OpenSpec.ofChange Rows.fnExactGripTextSpec).at F).post enc Tryd.prog Tryd.f3 false true false false) := by
  obtain ⟨places, hx⟩ := reads os enc
  refine returnsInHanded_of_row (C := Tryd.checked) (s := OpenSpec.ofChange Rows.fnExactGripTextSpec) own started (by kernel_rfl) Tryd.func3
    (witness_row_at (enc := enc) (C := Tryd.checked) false (laidWorld os) #[.agg #[.int .i64 0, .int .i64 0, .int .i64 0, .int .i64 0]] rfl (by kernel_rfl) (by kernel_rfl) (by kernel_rfl)
      (OpenSpec.preRow_of_cond 8 hx (by kernel_rfl) (fun k hk => by cases hk) (by kernel_rfl) (laid_met os))) ?_
  intro W base args ds gs before hval0 hW _ _ _ hL _ _
  have hval : ∀ (j : Nat) t v, Tryd.f3.params[j]? = some t → args[j]? = some v → Value.okWide Tryd.prog W .any base t v := hval0
  have hW' := hW
  obtain ⟨p, q, hA0, hV, rfl, hfz, hnd⟩ := hW
  have hA : DataW.TrodAll enc Tryd.prog W 0 (fun _ => true) true Tryd.f3.params.toList args.toList ds p := hA0
  rw [Tryd.params3] at hA hval
  obtain ⟨v0, vs0, d0, ds0, p0, q0, hargs, rfl, rfl, h0, e0⟩ := trodAll_cons hA
  obtain ⟨rfl, rfl, rfl⟩ := trodAll_nil e0
  obtain rfl : args = #[v0] := by cases args; simp_all
  have hVk := hV
  obtain ⟨_, _, _, _, e0, _, _, _, _, _, e1, _, rfl, _⟩ := trodVars_two hV
  have k0 := h0
  have lt0 : ∀ x ∈ p0, x.block < W.heap.size := by obtain ⟨m, hm⟩ := k0; exact DataW.trod_lt m _ _ _ hm
  obtain ⟨a0, rfl, g0⟩ := open_struct (encα := GripState.enc) (Good := fun c => c.Ok ∧ c.Fits) Tryd.underlying23 GripState.el (hval 0 23 v0 rfl rfl) h0
  clear hA0 hval0
  refine (walk a0 W g0.1 g0.2 (tab10 hL) (nms hL)).mono fun e W' ⟨he, bel⟩ => ?_
  subst he
  exact ⟨_, rfl, _, _, _, [], _, _, hW', trodAll_mk1 (shut_bool Tryd.underlying4 _), (trodAll_cons_mk (Below.trod laidOut (by kernel_rfl) (of_decide_eq_true (by kernel_rfl)) k0 bel lt0) trodAll_mk0), Below.trodVars laidOut bel (by kernel_rfl) hVk, bel.frame _, fun h => by cases h⟩
theorem said : Rows.FnExactGripTextSaid :=
  OpenClaim.holds_of_cond 3 Tryd.f3 rfl rfl rfl rfl rfl rfl rfl ⟨rfl, rfl, rfl, rfl, rfl⟩ rfl rfl rfl rfl rfl (by kernel_rfl) Tryd.func3 (by kernel_rfl)
    (of_decide_eq_true (by kernel_rfl)) (by unfold Func.isWrapper; first | (rw [if_pos (by decide +kernel)]; kernel_rfl) | (rw [if_neg (by decide +kernel)]; exact ⟨rfl, rfl⟩))
    (fun os started H enc _ F => by rw [OpenClaim.pre_eq_preRow]; exact lifted os started H enc F)
theorem plain (f : FuncId) (fn : Func) (hf : Tryd.pinned.checked.prog.funcNamed "loop.example/g00935/laws.FnExactGripText" = some f) (hfn : Tryd.pinned.checked.prog.funcs[f]? = some fn) :
    true = Tryd.pinned.checked.prog.looks [] ∧ ∀ (j : Nat) t, fn.params[j]? = some t → Tryd.pinned.checked.prog.wantsStandIn t = false := by
  obtain rfl : f = 3 := Option.some.inj ((show Tryd.prog.funcNamed "loop.example/g00935/laws.FnExactGripText" = some 3 by kernel_rfl).symm.trans hf) |>.symm
  obtain rfl : fn = Tryd.f3 := (Option.some.inj (Tryd.func3.symm.trans hfn)).symm
  refine ⟨by kernel_rfl, fun j t ht => ?_⟩
  rw [Tryd.params3] at ht
  have hm : t ∈ [23] := by simpa using Array.mem_of_getElem? ht
  have hall : ([23].all fun u => !Tryd.prog.wantsStandIn u) = true := by kernel_rfl
  exact (show Tryd.prog.wantsStandIn t = false by simpa using List.all_eq_true.1 hall t hm)
theorem proved : Rows.FnExactGripTextCardSaid :=
  Claim7.holds_tied_plain_at .later [] _ _ _ _ said (fun _ h => by cases h) (by kernel_rfl) (fun _ h => by cases h) fnExactGripText_row_tie rfl ⟨rfl, rfl⟩ (by kernel_rfl) rfl plain (by kernel_rfl)
#print axioms proved
end Go.Proofs.YtkdnkhbcbcffeaaDoor.lawExactGripText
