/- The law FnExactParseGrip: for every input its call returns true and changes nothing that was there. No condition but the row's own list of variables. -/
import Derived.Test.YtkdnkhbcbcffeaaDoorNames
import Derived.Test.YtkdnkhbcbcffeaaDoorPg
import Derived.Test.YtkdnkhbcbcffeaaDoorOpen
import Derived.Test.YtkdnkhbcbcffeaaDoorCards
import Derived.Test.YtkdnkhbcbcffeaaDoorTie
import Derived.ProofKit
import Derived.OpenShut
import Derived.Deep.DeepHandedRow
import Derived.Lib.LaidTab
import Derived.Stop.LaidErr
import Derived.MakeChecks
import Derived.OpenVars
import Derived.LaidLaws
import Derived.ChangeMaps5
import Derived.Deep.DeepCutAuto
import Derived.Deep.CutBlock
namespace Go.Proofs.YtkdnkhbcbcffeaaDoor.lawExactParseGrip
open Go Go.RowKit
set_option linter.unusedVariables false
set_option maxRecDepth 100000 in
set_option maxHeartbeats 2000000 in
theorem walk (s : ByteArray) (w : World) (hs : s.size ≤ maxLen) (ht : Tab10 w) (hn : NamesIs w) (hm : MaxIs w) (he : ErrIs w) :
    Calls Tryd.prog 4 #[.string s] w fun e w' => e = .returned (.bool true) ∧ Below w.heap.size w w' := by
  unfold maxLen at hs
  by_cases hbig : (1048576 : Int) < (s.size : Int)
  · go_enter Tryd.func4, Tryd.ntmps4
    go_wp2_with fail
    go_ret
    exact ⟨rfl, Below.refl _ _⟩
  have hs2 : s.size ≤ 1048576 := by omega
  have HS := hide hs2
  obtain ⟨G, hG⟩ : ∃ G, pgV s = G := ⟨_, rfl⟩
  obtain ⟨PB, hPB⟩ : ∃ PB, pgB s = PB := ⟨_, rfl⟩
  have HG := hide hG; have HPB := hide hPB; clear hG hPB hs2
  go_enter Tryd.func4, Tryd.ntmps4
  go_wp2_with fail
  refine (ParseGrip_spec s _ HS.out).mono ?_
  rintro e w1 ⟨rfl, b1⟩
  rw [HG.out, HPB.out]
  have B1 : Below w.heap.size w w1 := b1
  clear b1
  obtain ⟨z0, z1, z2, z3⟩ := GripState.box_after w1 G 26 ⟨_, Below.refl _ _⟩
  have hbx : Below w1.heap.size w1 (w1.alloc (.cells #[.int .i64 G.state, .int .i64 G.zone, .int .i64 G.force, .int .i64 G.fails] 26)) := (Below.refl _ _).alloc (Nat.le_refl _) _
  have B2 := below_step B1 hbx (Nat.le_refl _); clear hbx
  go_upto_region 4 with fail
  generalize (w1.alloc (.cells #[.int .i64 G.state, .int .i64 G.zone, .int .i64 G.force, .int .i64 G.fails] 26)) = w2 at *
  generalize w1.heap.size = px at z0 z1 z2 z3 ⊢
  go_wp2_with fail
  refine (ParseGrip_any s _ HS.out (ht.below B2) (hn.below B2) (hm.below B2) (he.below B2)).mono ?_
  rintro e w3 ⟨rfl, b3⟩
  rw [HG.out, HPB.out]
  replace z0 := below_cell b3 z0; replace z1 := below_cell b3 z1; replace z2 := below_cell b3 z2; replace z3 := below_cell b3 z3
  have B3 := below_step B2 b3 (Nat.le_refl _); clear b3
  have hbx : Below w3.heap.size w3 (w3.alloc (.cells #[.int .i64 G.state, .int .i64 G.zone, .int .i64 G.force, .int .i64 G.fails] 26)) := (Below.refl _ _).alloc (Nat.le_refl _) _
  obtain ⟨y0, y1, y2, y3⟩ := GripState.box_after w3 G 26 ⟨_, Below.refl _ _⟩
  go_upto_region 5 with fail
  replace z0 := below_cell hbx z0; replace z1 := below_cell hbx z1; replace z2 := below_cell hbx z2; replace z3 := below_cell hbx z3
  have B4 := below_step B3 hbx (Nat.le_refl _); clear hbx
  generalize (w3.alloc (.cells #[.int .i64 G.state, .int .i64 G.zone, .int .i64 G.force, .int .i64 G.fails] 26)) = w4 at *
  generalize w3.heap.size = py at y0 y1 y2 y3 ⊢
  go_wp2_with (go_at_call 10; refine (GripState.eq_same G _).mono ?_; rintro e w5 ⟨rfl, b5⟩; have B5 := below_step B4 b5 (Nat.le_refl _))
  go_ret
  exact ⟨rfl, B5⟩
open Go.ChangeShapes Go.WideShapes Go.ChangeAt Go.RowKit
open Go.ChangeMaps (open_string shut_string)
theorem gT : Tryd.prog.globalNamed "internal/strconv.uint64pow10" = some 5 := by kernel_rfl
theorem gTT : (Tryd.prog.globals[5]?).map (·.type) = some 80 := by kernel_rfl
theorem cT : Tryd.prog.cellsOf 80 = 20 := by kernel_rfl
theorem cE : Tryd.prog.cellsOf 65 = 1 := by kernel_rfl
theorem tab10 {W : World} (h : laidMetH Tryd.prog Rows.fnExactParseGripRow.laid W) : Tab10 W := by
  rw [MakeChecks.laidMetH_plain _ _ _ (by kernel_rfl)] at h
  exact Lib.tabIs_of_head gT gTT Tryd.underlying80 Tryd.underlying65 cE cT (laidMet.tail (laidMet.tail h))
theorem nms {W : World} (h : laidMetH Tryd.prog Rows.fnExactParseGripRow.laid W) : NamesIs W := by
  rw [MakeChecks.laidMetH_plain _ _ _ (by kernel_rfl)] at h
  exact names_of (laidMet.tail (laidMet.tail (laidMet.tail (laidMet.tail (laidMet.tail h)))))
theorem gES : Tryd.prog.globalNamed "strconv.ErrSyntax" = some 3 := by kernel_rfl
theorem gEST : (Tryd.prog.globals[3]?).map (·.type) = some 48 := by kernel_rfl
theorem cES : Tryd.prog.cellsOf 88 = 1 := by kernel_rfl
theorem cSS : Tryd.prog.cellsOf 9 = 1 := by kernel_rfl
theorem star : "*" ++ "errors.errorString" = "*errors.errorString" := by decide
theorem rowES (u : TypeId) (h : Tryd.prog.typeName? 3 u = some "*errors.errorString") : u = 86 :=
  typeName_ptr_named (nm := "errors.errorString") (by rw [star]; kernel_rfl) (by kernel_rfl) (by decide) u (by rw [star]; exact h)
theorem errs {W : World} (h : laidMetH Tryd.prog Rows.fnExactParseGripRow.laid W) : ErrIs W := by
  rw [MakeChecks.laidMetH_plain _ _ _ (by kernel_rfl)] at h
  obtain ⟨a0, s0, hv0, -, -, -⟩ := laid_sentinel (laidMet.tail (laidMet.tail (laidMet.tail (laidMet.tail h)))) gES gEST Tryd.underlying48 rowES Tryd.underlying86 Tryd.underlying88 rfl rfl Tryd.underlying9 cES cSS
  exact ⟨_, _, hv0⟩
theorem maxIs {W : World} (h : W.ShapedOpen Tryd.prog) : MaxIs W := Tryd.laysM145.s1_3 W h
/- a world for the witness: the settled one, each listed variable's block holding what its initialiser lays -/
def litV {H : Type} : DataW H → Value
  | .lit (.int k n) => .int k n
  | .lit (.string b) => .string ⟨b.toArray⟩
  | _ => .bool false
def cellsD {H : Type} : DataW H → Array Value
  | .agg l => (l.map litV).toArray
  | _ => #[]
def putD (d : DataW Unit) : Obj → Obj
  | .cells _ t frozen => .cells (cellsD d) t frozen
  | o => o
noncomputable def low : Nat := (World.holding Tryd.prog default ⟨#[], #[], []⟩).heap.size
def rngS : ByteArray := ⟨#[118, 97, 108, 117, 101, 32, 111, 117, 116, 32, 111, 102, 32, 114, 97, 110, 103, 101]⟩
def synS : ByteArray := ⟨#[105, 110, 118, 97, 108, 105, 100, 32, 115, 121, 110, 116, 97, 120]⟩
def putE (b : Nat) : Obj → Obj
  | .cells _ t frozen => .cells #[.iface 86 (.pointer (some ⟨b, 0, none⟩))] t frozen
  | o => o
noncomputable def held (os : Os) : World := World.holding Tryd.prog os ⟨#[.cells #[.string rngS] 88, .cells #[.string synS] 88], #[], []⟩
noncomputable def laidWorld (os : Os) : World := { held os with heap := ((((((((held os).heap).modify 6 (putD Rows.laid_math_bits_deBruijn32tab)).modify 7 (putD Rows.laid_math_bits_deBruijn64tab)).modify 5 (putD Rows.laid_internal_strconv_uint64pow10)).modify 0 (putD Rows.laid_loop_example_g00935_impl_gripNames)).modify 1 (putD Rows.laid_loop_example_g00935_impl_zoneNames)).modify 4 (putE low)).modify 3 (putE (low + 1)) }
theorem laid_met (os : Os) : laidMet Tryd.prog Rows.fnExactParseGripRow.laid ((laidWorld os).forCall (fun _ _ => 0) ⟨#[], #[.string ⟨#[]⟩], []⟩).memory := laidMet_of_run' 8 (by kernel_rfl) (by kernel_rfl)
theorem reads (os : Os) {H : Type} (enc : TypeId × Value → H) : ∃ places, DataW.whole enc Tryd.prog ((laidWorld os).forCall (fun _ _ => 0) ⟨#[], #[.string ⟨#[]⟩], []⟩).memory Tryd.f4.params.toList Rows.fnExactParseGripSpec.vars false (#[.string ⟨#[]⟩] : Array Value).toList 8 = some ([.lit (.string [])], [Rows.laid_loop_example_g00935_impl_gripNames, Rows.laid_loop_example_g00935_impl_zoneNames], places) :=
  ⟨MemPlace.row ⟨0, 0, none⟩ 5 ++ MemPlace.row ⟨1, 0, none⟩ 4, by kernel_rfl⟩
set_option maxRecDepth 100000 in
theorem lifted (os : Os) (started : os.Started) (H : Type) (enc : TypeId × Value → H) (F : Stop.Interp) :
    ReturnsInHanded {} Tryd.checked os 4 .any ((OpenSpec.ofChange Rows.fnExactParseGripSpec).preRow enc Tryd.prog Tryd.f4 Rows.fnExactParseGripRow.domain false Rows.fnExactParseGripRow.laid) (((OpenSpec.ofChange Rows.fnExactParseGripSpec).at F).post enc Tryd.prog Tryd.f4 false true false false) := by
  obtain ⟨places, hx⟩ := reads os enc
  refine returnsInHanded_of_row (C := Tryd.checked) (s := OpenSpec.ofChange Rows.fnExactParseGripSpec) own started (by kernel_rfl) Tryd.func4
    (witness_row_at (enc := enc) (C := Tryd.checked) false (laidWorld os) #[.string ⟨#[]⟩] rfl (by kernel_rfl) (by kernel_rfl) (by kernel_rfl)
      (OpenSpec.preRow_of_cond 8 hx (by kernel_rfl) (fun k hk => by cases hk) (by kernel_rfl) (laid_met os))) ?_
  intro W base args ds gs before hval0 hW _ _ _ hL hSH _
  have hval : ∀ (j : Nat) t v, Tryd.f4.params[j]? = some t → args[j]? = some v → Value.okWide Tryd.prog W .any base t v := hval0
  have hW' := hW
  obtain ⟨p, q, hA0, hV, rfl, hfz, hnd⟩ := hW
  have hA : DataW.TrodAll enc Tryd.prog W 0 (fun _ => true) true Tryd.f4.params.toList args.toList ds p := hA0
  rw [Tryd.params4] at hA hval
  obtain ⟨v0, vs0, d0, ds0, p0, q0, hargs, rfl, rfl, h0, e0⟩ := trodAll_cons hA
  obtain ⟨rfl, rfl, rfl⟩ := trodAll_nil e0
  obtain rfl : args = #[v0] := by cases args; simp_all
  have hVk := hV
  obtain ⟨_, _, _, _, e0, _, _, _, _, _, e1, _, rfl, _⟩ := trodVars_two hV
  have k0 := h0
  have lt0 : ∀ x ∈ p0, x.block < W.heap.size := by obtain ⟨m, hm⟩ := k0; exact DataW.trod_lt m _ _ _ hm
  obtain ⟨s, rfl, rfl, rfl, hsz⟩ := open_string Tryd.underlying9 (hval 0 9 v0 rfl rfl) h0
  clear hA0 hval0
  refine (walk s W hsz (tab10 hL) (nms hL) (maxIs hSH) (errs hL)).mono fun e W' ⟨he, bel⟩ => ?_
  subst he
  exact ⟨_, rfl, _, _, _, [], _, _, hW', trodAll_mk1 (shut_bool Tryd.underlying4 _), (trodAll_cons_mk (Below.trod laidOut (by kernel_rfl) (of_decide_eq_true (by kernel_rfl)) k0 bel lt0) trodAll_mk0), Below.trodVars laidOut bel (by kernel_rfl) hVk, bel.frame _, fun h => by cases h⟩
theorem said : Rows.FnExactParseGripSaid :=
  OpenClaim.holds_of_cond 4 Tryd.f4 rfl rfl rfl rfl rfl rfl rfl ⟨rfl, rfl, rfl, rfl, rfl⟩ rfl rfl rfl rfl rfl (by kernel_rfl) Tryd.func4 (by kernel_rfl)
    (of_decide_eq_true (by kernel_rfl)) (by unfold Func.isWrapper; first | (rw [if_pos (by decide +kernel)]; kernel_rfl) | (rw [if_neg (by decide +kernel)]; exact ⟨rfl, rfl⟩))
    (fun os started H enc _ F => by rw [OpenClaim.pre_eq_preRow]; exact lifted os started H enc F)
theorem plain (f : FuncId) (fn : Func) (hf : Tryd.pinned.checked.prog.funcNamed "loop.example/g00935/laws.FnExactParseGrip" = some f) (hfn : Tryd.pinned.checked.prog.funcs[f]? = some fn) :
    true = Tryd.pinned.checked.prog.looks [] ∧ ∀ (j : Nat) t, fn.params[j]? = some t → Tryd.pinned.checked.prog.wantsStandIn t = false := by
  obtain rfl : f = 4 := Option.some.inj ((show Tryd.prog.funcNamed "loop.example/g00935/laws.FnExactParseGrip" = some 4 by kernel_rfl).symm.trans hf) |>.symm
  obtain rfl : fn = Tryd.f4 := (Option.some.inj (Tryd.func4.symm.trans hfn)).symm
  refine ⟨by kernel_rfl, fun j t ht => ?_⟩
  rw [Tryd.params4] at ht
  have hm : t ∈ [9] := by simpa using Array.mem_of_getElem? ht
  have hall : ([9].all fun u => !Tryd.prog.wantsStandIn u) = true := by kernel_rfl
  exact (show Tryd.prog.wantsStandIn t = false by simpa using List.all_eq_true.1 hall t hm)
theorem proved : Rows.FnExactParseGripCardSaid :=
  Claim7.holds_tied_plain_at .later [] _ _ _ _ said (fun _ h => by cases h) (by kernel_rfl) (fun _ h => by cases h) fnExactParseGrip_row_tie rfl ⟨rfl, rfl⟩ (by kernel_rfl) rfl plain (by kernel_rfl)
#print axioms proved
end Go.Proofs.YtkdnkhbcbcffeaaDoor.lawExactParseGrip
