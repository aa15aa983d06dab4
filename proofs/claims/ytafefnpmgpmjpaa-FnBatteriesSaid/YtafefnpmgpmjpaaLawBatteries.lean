/- The law FnBatteries: for every input its call returns true and changes nothing that was there. For the minutes that are left power can be taken out and for one more not, what is put in is at most the capacity, a told rank can be fed. No condition. -/
import Derived.Test.YtafefnpmgpmjpaaBatT
import Derived.Test.YtafefnpmgpmjpaaDrawPk
import Derived.Test.YtafefnpmgpmjpaaPeak
import Derived.Test.YtafefnpmgpmjpaaLongest
import Derived.Test.YtafefnpmgpmjpaaEmer
import Derived.Test.YtafefnpmgpmjpaaTools
import Derived.Test.YtafefnpmgpmjpaaOpen
import Derived.Deep.Cut
import Derived.Deep.CutBlock
import Derived.Deep.DeepCutAuto
import Derived.MakeChecks
import Derived.Deep.DeepHandedRow
import Derived.OpenShut
import Derived.ProofKit
namespace Go.Proofs.Ytafefnpmgpmjpaa.lawBatteries
open Go Go.RowKit
set_option linter.unusedVariables false
set_option linter.unusedSimpArgs false
set_option maxRecDepth 100000 in
set_option maxHeartbeats 8000000 in
theorem walk (Lc : List Int) (A : Option Addr) (cap : Nat) (w : World) (hc : CodeIs w A Lc) :
    Calls Try.prog 4 #[.slice A Lc.length cap] w fun e w' => e = .returned (.bool true) ∧ Below w.heap.size w w' := by
  have hl := hc.1
  by_cases hbig : (65536 : Int) < (Lc.length : Int)
  · have hd : decide ((65536 : Int) < (Lc.length : Int)) = true := by simpa using hbig
    go_enter Try.func4, Try.ntmps4
    go_wp2_with fail
    refine (rBig_any _ A cap w hl).mono ?_
    rintro e w1 ⟨rfl, rfl⟩
    rw [hd]; clear hd hbig
    go_wp2_with fail
    go_ret
    exact ⟨rfl, Below.refl _ _⟩
  have hd : decide ((65536 : Int) < (Lc.length : Int)) = false := by simpa using hbig
  go_enter Try.func4, Try.ntmps4
  go_wp2_with fail
  refine (rBig_any _ A cap w hl).mono ?_
  rintro e wj ⟨rfl, rfl⟩
  rw [hd]; clear hd hbig
  have BJ : Below w.heap.size w w := Below.refl _ _
  obtain ⟨wj, hwj⟩ : ∃ wj, wj = w := ⟨_, rfl⟩
  have hcj : CodeIs wj A Lc := hwj ▸ hc
  have BJ : Below w.heap.size w wj := hwj ▸ BJ
  go_wp2_with fail
  rw [← hwj]; clear hwj
  refine (DrawMinutesLeft_any A Lc cap _ hcj).mono ?_
  rintro e wj ⟨b, x, rfl, b1⟩
  have BJ := below_step BJ b1 (Nat.le_refl _); have hcj := hcj.later b1
  clear b1
  have hmt := fun (h : minB b x = true) => min_take h
  obtain ⟨mv0, mv1⟩ := minV_bd b x
  obtain ⟨V, hV⟩ : ∃ V, V = minV b x := ⟨_, rfl⟩
  obtain ⟨ob, hob⟩ : ∃ ob, ob = minB b x := ⟨_, rfl⟩
  rw [← hV] at hmt mv0 mv1; rw [← hob] at hmt; have HV := hide hV; have HOB := hide hob; have HMT := hide hmt; clear hV hob hmt
  have hbx : Below wj.heap.size wj (wj.alloc (.cells #[.int .i64 b.capacity, .int .i64 b.charge, .int .i64 b.most] 30)) := (Below.refl _ _).alloc (Nat.le_refl _) _
  obtain ⟨za0, za1, za2⟩ := Battery.box_after wj b 30 ⟨_, Below.refl _ _⟩
  go_upto_region 4 with fail
  have BJ := below_step BJ hbx (Nat.le_refl _); have hcj := hcj.later hbx
  clear hbx
  generalize (wj.alloc (.cells #[.int .i64 b.capacity, .int .i64 b.charge, .int .i64 b.most] 30)) = wk at *
  generalize wj.heap.size = pka at za0 za1 za2 ⊢
  obtain ⟨wj, hwk⟩ : ∃ wj, wj = wk := ⟨_, rfl⟩
  rw [← hwk] at BJ hcj za0 za1 za2 ⊢; clear hwk wk
  go_wp2_with fail
  refine (MinutesLeft_any b x _).mono ?_
  rintro e wj ⟨rfl, b1⟩
  have BJ := below_step BJ b1 (Nat.le_refl _); have hcj := hcj.later b1; replace za0 := below_cell b1 za0; replace za1 := below_cell b1 za1; replace za2 := below_cell b1 za2
  clear b1
  rw [← HV.out, ← HOB.out]
  go_wp2_with fail
  refine (MinutesLeft_spec b x _).mono ?_
  rintro e wj ⟨rfl, b1⟩
  have BJ := below_step BJ b1 (Nat.le_refl _); have hcj := hcj.later b1; replace za0 := below_cell b1 za0; replace za1 := below_cell b1 za1; replace za2 := below_cell b1 za2
  clear b1
  rw [← HV.out, ← HOB.out]
  go_upto_if 72 with fail
  go_cut [9, 10, 11, 12] (fun _ _ _ _ wx => Below wj.heap.size wj wx)
  case first =>
    as_aux_lemma =>
      cases ob
      · go_wp2_with fail
        go_meet
        exact Below.refl _ _
      · obtain ⟨t1, t2⟩ := HMT.out rfl
        have HT1 := hide t1; have HT2 := hide t2; clear t1 t2 HMT
        have hw1 : IntKind.i64.wrap (V + 1) = V + 1 := by rw [IntKind.wrap_i64]; omega
        obtain ⟨w9, hw9⟩ : ∃ w9, w9 = wj := ⟨_, rfl⟩
        have B9 : Below w9.heap.size w9 wj := hw9 ▸ Below.refl _ _
        skip
        go_wp2_with fail
        refine (TakeOut_any b x V _).mono ?_
        rintro e wj ⟨rfl, b1⟩
        have BJ := below_step BJ b1 (Nat.le_refl _); have hcj := hcj.later b1; replace za0 := below_cell b1 za0; replace za1 := below_cell b1 za1; replace za2 := below_cell b1 za2
        have B9 := below_step B9 b1 (Nat.le_refl _); clear b1
        rw [HT1.out]
        obtain ⟨Y1, hY1⟩ : ∃ Y1, Y1 = tkV b x V := ⟨_, rfl⟩
        rw [← hY1]; clear hY1
        have B9 := below_step B9 (show Below wj.heap.size wj (wj.alloc (.cells #[.int .i64 Y1.capacity, .int .i64 Y1.charge, .int .i64 Y1.most] 30)) from (Below.refl _ _).alloc (Nat.le_refl _) _) (Nat.le_refl _)
        have hbx : Below wj.heap.size wj (wj.alloc (.cells #[.int .i64 Y1.capacity, .int .i64 Y1.charge, .int .i64 Y1.most] 30)) := (Below.refl _ _).alloc (Nat.le_refl _) _
        obtain ⟨zb0, zb1, zb2⟩ := Battery.box_after wj Y1 30 ⟨_, Below.refl _ _⟩
        go_upto_region 10 with fail
        have BJ := below_step BJ hbx (Nat.le_refl _); have hcj := hcj.later hbx; replace za0 := below_cell hbx za0; replace za1 := below_cell hbx za1; replace za2 := below_cell hbx za2
        clear hbx
        generalize (wj.alloc (.cells #[.int .i64 Y1.capacity, .int .i64 Y1.charge, .int .i64 Y1.most] 30)) = wk at *
        generalize wj.heap.size = pkb at zb0 zb1 zb2 ⊢
        obtain ⟨wj, hwk⟩ : ∃ wj, wj = wk := ⟨_, rfl⟩
        rw [← hwk] at BJ hcj B9 za0 za1 za2 zb0 zb1 zb2 ⊢; clear hwk wk
        skip
        go_wp2_with fail
        refine (TakeOut_any b x (V + 1) _).mono ?_
        rintro e wj ⟨rfl, b1⟩
        have BJ := below_step BJ b1 (Nat.le_refl _); have hcj := hcj.later b1; replace za0 := below_cell b1 za0; replace za1 := below_cell b1 za1; replace za2 := below_cell b1 za2; replace zb0 := below_cell b1 zb0; replace zb1 := below_cell b1 zb1; replace zb2 := below_cell b1 zb2
        have B9 := below_step B9 b1 (Nat.le_refl _); clear b1
        rw [HT2.out]
        obtain ⟨Y2, hY2⟩ : ∃ Y2, Y2 = tkV b x (V + 1) := ⟨_, rfl⟩
        rw [← hY2]; clear hY2
        have B9 := below_step B9 (show Below wj.heap.size wj (wj.alloc (.cells #[.int .i64 Y2.capacity, .int .i64 Y2.charge, .int .i64 Y2.most] 30)) from (Below.refl _ _).alloc (Nat.le_refl _) _) (Nat.le_refl _)
        go_wp2_with fail
        go_meet
        rw [← hw9]; exact B9
  have b1 := hcut; clear hcut
  clear za0 za1 za2
  have BJ := below_step BJ b1 (Nat.le_refl _); have hcj := hcj.later b1
  clear b1 HV HOB HMT mv0 mv1
  obtain ⟨wj, hwk⟩ : ∃ wj, wj = wc := ⟨_, rfl⟩; subst hwk
  as_aux_lemma =>
  go_wp2_with fail
  refine (DrawTakeOut_any A Lc cap _ hcj).mono ?_
  rintro e wj ⟨x, u, m, rfl, b1⟩
  have BJ := below_step BJ b1 (Nat.le_refl _); have hcj := hcj.later b1
  clear b1
  have htp := fun (h : tkB x u m = true) => take_put h
  have hpl := fun (h : ptB x u m = true) => put_law h
  obtain ⟨Y, hY⟩ : ∃ Y, Y = tkV x u m := ⟨_, rfl⟩
  obtain ⟨yb, hyb⟩ : ∃ yb, yb = tkB x u m := ⟨_, rfl⟩
  obtain ⟨Z, hZ⟩ : ∃ Z, Z = ptV x u m := ⟨_, rfl⟩
  obtain ⟨zb, hzb⟩ : ∃ zb, zb = ptB x u m := ⟨_, rfl⟩
  rw [← hY, ← hyb] at htp; rw [← hZ, ← hzb] at hpl; have HY := hide hY; have HYB := hide hyb; have HZ := hide hZ; have HZB := hide hzb; have HTP := hide htp; have HPL := hide hpl; clear hY hyb hZ hzb htp hpl
  have hbx : Below wj.heap.size wj (wj.alloc (.cells #[.int .i64 x.capacity, .int .i64 x.charge, .int .i64 x.most] 30)) := (Below.refl _ _).alloc (Nat.le_refl _) _
  obtain ⟨zx0, zx1, zx2⟩ := Battery.box_after wj x 30 ⟨_, Below.refl _ _⟩
  go_upto_region 14 with fail
  have BJ := below_step BJ hbx (Nat.le_refl _); have hcj := hcj.later hbx
  clear hbx
  generalize (wj.alloc (.cells #[.int .i64 x.capacity, .int .i64 x.charge, .int .i64 x.most] 30)) = wk at *
  generalize wj.heap.size = pkx at zx0 zx1 zx2 ⊢
  obtain ⟨wj, hwk⟩ : ∃ wj, wj = wk := ⟨_, rfl⟩
  rw [← hwk] at BJ hcj zx0 zx1 zx2 ⊢; clear hwk wk
  go_wp2_with fail
  refine (TakeOut_any x u m _).mono ?_
  rintro e wj ⟨rfl, b1⟩
  have BJ := below_step BJ b1 (Nat.le_refl _); have hcj := hcj.later b1; replace zx0 := below_cell b1 zx0; replace zx1 := below_cell b1 zx1; replace zx2 := below_cell b1 zx2
  clear b1
  rw [← HY.out, ← HYB.out]
  have hbx : Below wj.heap.size wj (wj.alloc (.cells #[.int .i64 Y.capacity, .int .i64 Y.charge, .int .i64 Y.most] 30)) := (Below.refl _ _).alloc (Nat.le_refl _) _
  obtain ⟨zy0, zy1, zy2⟩ := Battery.box_after wj Y 30 ⟨_, Below.refl _ _⟩
  go_upto_region 15 with fail
  have BJ := below_step BJ hbx (Nat.le_refl _); have hcj := hcj.later hbx; replace zx0 := below_cell hbx zx0; replace zx1 := below_cell hbx zx1; replace zx2 := below_cell hbx zx2
  clear hbx
  generalize (wj.alloc (.cells #[.int .i64 Y.capacity, .int .i64 Y.charge, .int .i64 Y.most] 30)) = wk at *
  generalize wj.heap.size = pky at zy0 zy1 zy2 ⊢
  obtain ⟨wj, hwk⟩ : ∃ wj, wj = wk := ⟨_, rfl⟩
  rw [← hwk] at BJ hcj zx0 zx1 zx2 zy0 zy1 zy2 ⊢; clear hwk wk
  go_wp2_with fail
  refine (TakeOut_spec x u m _).mono ?_
  rintro e wj ⟨rfl, b1⟩
  have BJ := below_step BJ b1 (Nat.le_refl _); have hcj := hcj.later b1; replace zx0 := below_cell b1 zx0; replace zx1 := below_cell b1 zx1; replace zx2 := below_cell b1 zx2; replace zy0 := below_cell b1 zy0; replace zy1 := below_cell b1 zy1; replace zy2 := below_cell b1 zy2
  clear b1
  rw [← HY.out, ← HYB.out]
  have hbx : Below wj.heap.size wj (wj.alloc (.cells #[.int .i64 Y.capacity, .int .i64 Y.charge, .int .i64 Y.most] 30)) := (Below.refl _ _).alloc (Nat.le_refl _) _
  obtain ⟨zs0, zs1, zs2⟩ := Battery.box_after wj Y 30 ⟨_, Below.refl _ _⟩
  go_upto_region 16 with fail
  have BJ := below_step BJ hbx (Nat.le_refl _); have hcj := hcj.later hbx; replace zx0 := below_cell hbx zx0; replace zx1 := below_cell hbx zx1; replace zx2 := below_cell hbx zx2; replace zy0 := below_cell hbx zy0; replace zy1 := below_cell hbx zy1; replace zy2 := below_cell hbx zy2
  clear hbx
  generalize (wj.alloc (.cells #[.int .i64 Y.capacity, .int .i64 Y.charge, .int .i64 Y.most] 30)) = wk at *
  generalize wj.heap.size = pks at zs0 zs1 zs2 ⊢
  obtain ⟨wj, hwk⟩ : ∃ wj, wj = wk := ⟨_, rfl⟩
  rw [← hwk] at BJ hcj zx0 zx1 zx2 zy0 zy1 zy2 zs0 zs1 zs2 ⊢; clear hwk wk
  go_wp2_with fail
  refine (PutIn_any x u m _).mono ?_
  rintro e wj ⟨rfl, b1⟩
  have BJ := below_step BJ b1 (Nat.le_refl _); have hcj := hcj.later b1; replace zx0 := below_cell b1 zx0; replace zx1 := below_cell b1 zx1; replace zx2 := below_cell b1 zx2; replace zy0 := below_cell b1 zy0; replace zy1 := below_cell b1 zy1; replace zy2 := below_cell b1 zy2; replace zs0 := below_cell b1 zs0; replace zs1 := below_cell b1 zs1; replace zs2 := below_cell b1 zs2
  clear b1
  rw [← HZ.out, ← HZB.out]
  have hbx : Below wj.heap.size wj (wj.alloc (.cells #[.int .i64 Z.capacity, .int .i64 Z.charge, .int .i64 Z.most] 30)) := (Below.refl _ _).alloc (Nat.le_refl _) _
  obtain ⟨zz0, zz1, zz2⟩ := Battery.box_after wj Z 30 ⟨_, Below.refl _ _⟩
  go_upto_region 19 with fail
  have BJ := below_step BJ hbx (Nat.le_refl _); have hcj := hcj.later hbx; replace zx0 := below_cell hbx zx0; replace zx1 := below_cell hbx zx1; replace zx2 := below_cell hbx zx2; replace zy0 := below_cell hbx zy0; replace zy1 := below_cell hbx zy1; replace zy2 := below_cell hbx zy2; replace zs0 := below_cell hbx zs0; replace zs1 := below_cell hbx zs1; replace zs2 := below_cell hbx zs2
  clear hbx
  generalize (wj.alloc (.cells #[.int .i64 Z.capacity, .int .i64 Z.charge, .int .i64 Z.most] 30)) = wk at *
  generalize wj.heap.size = pkz at zz0 zz1 zz2 ⊢
  obtain ⟨wj, hwk⟩ : ∃ wj, wj = wk := ⟨_, rfl⟩
  rw [← hwk] at BJ hcj zx0 zx1 zx2 zy0 zy1 zy2 zs0 zs1 zs2 zz0 zz1 zz2 ⊢; clear hwk wk
  go_wp2_with fail
  refine (PutIn_spec x u m _).mono ?_
  rintro e wj ⟨rfl, b1⟩
  have BJ := below_step BJ b1 (Nat.le_refl _); have hcj := hcj.later b1; replace zx0 := below_cell b1 zx0; replace zx1 := below_cell b1 zx1; replace zx2 := below_cell b1 zx2; replace zy0 := below_cell b1 zy0; replace zy1 := below_cell b1 zy1; replace zy2 := below_cell b1 zy2; replace zs0 := below_cell b1 zs0; replace zs1 := below_cell b1 zs1; replace zs2 := below_cell b1 zs2; replace zz0 := below_cell b1 zz0; replace zz1 := below_cell b1 zz1; replace zz2 := below_cell b1 zz2
  clear b1
  rw [← HZ.out, ← HZB.out]
  have hbx : Below wj.heap.size wj (wj.alloc (.cells #[.int .i64 Z.capacity, .int .i64 Z.charge, .int .i64 Z.most] 30)) := (Below.refl _ _).alloc (Nat.le_refl _) _
  obtain ⟨zt0, zt1, zt2⟩ := Battery.box_after wj Z 30 ⟨_, Below.refl _ _⟩
  go_upto_region 20 with fail
  have BJ := below_step BJ hbx (Nat.le_refl _); have hcj := hcj.later hbx; replace zx0 := below_cell hbx zx0; replace zx1 := below_cell hbx zx1; replace zx2 := below_cell hbx zx2; replace zy0 := below_cell hbx zy0; replace zy1 := below_cell hbx zy1; replace zy2 := below_cell hbx zy2; replace zs0 := below_cell hbx zs0; replace zs1 := below_cell hbx zs1; replace zs2 := below_cell hbx zs2; replace zz0 := below_cell hbx zz0; replace zz1 := below_cell hbx zz1; replace zz2 := below_cell hbx zz2
  clear hbx
  generalize (wj.alloc (.cells #[.int .i64 Z.capacity, .int .i64 Z.charge, .int .i64 Z.most] 30)) = wk at *
  generalize wj.heap.size = pkt at zt0 zt1 zt2 ⊢
  obtain ⟨wj, hwk⟩ : ∃ wj, wj = wk := ⟨_, rfl⟩
  rw [← hwk] at BJ hcj zx0 zx1 zx2 zy0 zy1 zy2 zs0 zs1 zs2 zz0 zz1 zz2 zt0 zt1 zt2 ⊢; clear hwk wk
  go_cut [157] (fun v wx => v = .bool false ∧ Below wj.heap.size wj wx)
  case first =>
    as_aux_lemma =>
      cases zb
      · go_wp2_with fail
        go_meet
        exact ⟨rfl, Below.refl _ _⟩
      · obtain ⟨t1, t2⟩ := HPL.out rfl
        have HT1 := hide t1; clear t1 HPL HTP
        have hnl : ¬ Z.charge < x.charge := by omega
        go_wp2_with (go_at_call 23; refine (IsBattery_is HT1.out _).mono ?_; rintro e wq ⟨rfl, b1⟩)
        go_meet
        exact ⟨rfl, b1⟩
  obtain ⟨rfl, b1⟩ := hcut
  have BJ := below_step BJ b1 (Nat.le_refl _); have hcj := hcj.later b1; replace zx0 := below_cell b1 zx0; replace zx1 := below_cell b1 zx1; replace zx2 := below_cell b1 zx2; replace zy0 := below_cell b1 zy0; replace zy1 := below_cell b1 zy1; replace zy2 := below_cell b1 zy2; replace zs0 := below_cell b1 zs0; replace zs1 := below_cell b1 zs1; replace zs2 := below_cell b1 zs2; replace zz0 := below_cell b1 zz0; replace zz1 := below_cell b1 zz1; replace zz2 := below_cell b1 zz2; replace zt0 := below_cell b1 zt0; replace zt1 := below_cell b1 zt1; replace zt2 := below_cell b1 zt2
  clear b1 HPL HZ HZB
  obtain ⟨wj, hwk⟩ : ∃ wj, wj = wc := ⟨_, rfl⟩; subst hwk
  clear zs0 zs1 zs2
  clear zz0 zz1 zz2
  clear zt0 zt1 zt2
  as_aux_lemma =>
  go_upto_if 158 with fail
  go_cut [24, 25] (fun _ _ wx => Below wj.heap.size wj wx)
  case first =>
    as_aux_lemma =>
      cases yb
      · go_wp2_with fail
        go_meet
        exact Below.refl _ _
      · obtain ⟨t1, t2⟩ := HTP.out rfl
        obtain ⟨BK, hBK⟩ : ∃ BK, BK = ptV Y u m := ⟨_, rfl⟩
        rw [← hBK] at t2; have HT1 := hide t1; have HBK := hide hBK; clear t1 hBK HTP
        have hng : ¬ x.charge < BK.charge := by omega
        obtain ⟨w9, hw9⟩ : ∃ w9, w9 = wj := ⟨_, rfl⟩
        have B9 : Below w9.heap.size w9 wj := hw9 ▸ Below.refl _ _
        go_wp2_with fail
        refine (PutIn_any Y u m _).mono ?_
        rintro e wj ⟨rfl, b1⟩
        have BJ := below_step BJ b1 (Nat.le_refl _); have hcj := hcj.later b1; replace zx0 := below_cell b1 zx0; replace zx1 := below_cell b1 zx1; replace zx2 := below_cell b1 zx2; replace zy0 := below_cell b1 zy0; replace zy1 := below_cell b1 zy1; replace zy2 := below_cell b1 zy2
        have B9 := below_step B9 b1 (Nat.le_refl _); clear b1
        rw [HT1.out, ← HBK.out]
        have B9 := below_step B9 (show Below wj.heap.size wj (wj.alloc (.cells #[.int .i64 BK.capacity, .int .i64 BK.charge, .int .i64 BK.most] 30)) from (Below.refl _ _).alloc (Nat.le_refl _) _) (Nat.le_refl _)
        have hbx : Below wj.heap.size wj (wj.alloc (.cells #[.int .i64 BK.capacity, .int .i64 BK.charge, .int .i64 BK.most] 30)) := (Below.refl _ _).alloc (Nat.le_refl _) _
        obtain ⟨zk0, zk1, zk2⟩ := Battery.box_after wj BK 30 ⟨_, Below.refl _ _⟩
        go_upto_region 24 with fail
        have BJ := below_step BJ hbx (Nat.le_refl _); have hcj := hcj.later hbx; replace zx0 := below_cell hbx zx0; replace zx1 := below_cell hbx zx1; replace zx2 := below_cell hbx zx2; replace zy0 := below_cell hbx zy0; replace zy1 := below_cell hbx zy1; replace zy2 := below_cell hbx zy2
        clear hbx
        generalize (wj.alloc (.cells #[.int .i64 BK.capacity, .int .i64 BK.charge, .int .i64 BK.most] 30)) = wk at *
        generalize wj.heap.size = pkk at zk0 zk1 zk2 ⊢
        obtain ⟨wj, hwk⟩ : ∃ wj, wj = wk := ⟨_, rfl⟩
        rw [← hwk] at BJ hcj B9 zx0 zx1 zx2 zy0 zy1 zy2 zk0 zk1 zk2 ⊢; clear hwk wk
        go_wp2_with fail
        go_meet
        rw [← hw9]; exact B9
  have b1 := hcut; clear hcut
  clear zx0 zx1 zx2
  clear zy0 zy1 zy2
  have BJ := below_step BJ b1 (Nat.le_refl _); have hcj := hcj.later b1
  clear b1 HY HYB HTP
  obtain ⟨wj, hwk⟩ : ∃ wj, wj = wc := ⟨_, rfl⟩; subst hwk
  as_aux_lemma =>
  go_wp2_with fail
  refine (DrawLongestRank_any A Lc cap _ hcj).mono ?_
  rintro e wj ⟨AL, nL, cL, L, c, n, rfl, rfl, zL, hcap, kOk, RL, b1⟩
  have BJ := below_step BJ b1 (Nat.le_refl _); have hcj := hcj.later b1; clear b1
  have hll := fun (h : longB L c n = true) (h0 : 0 < longV L c n) => long_law h h0
  obtain ⟨lv0, lv1⟩ := longV_bd L c n
  obtain ⟨V, hV⟩ : ∃ V, V = longV L c n := ⟨_, rfl⟩
  obtain ⟨kb, hkb⟩ : ∃ kb, kb = longB L c n := ⟨_, rfl⟩
  rw [← hV, ← hkb] at hll; rw [← hV] at lv0 lv1; have HV := hide hV; have HKB := hide hkb; have HLL := hide hll; clear hV hkb hll
  have hbx : Below wj.heap.size wj (wj.alloc (.cells #[.int .i64 c.capacity, .int .i64 c.charge, .int .i64 c.most] 30)) := (Below.refl _ _).alloc (Nat.le_refl _) _
  obtain ⟨zc0, zc1, zc2⟩ := Battery.box_after wj c 30 ⟨_, Below.refl _ _⟩
  go_upto_region 27 with fail
  have BJ := below_step BJ hbx (Nat.le_refl _); have hcj := hcj.later hbx; replace RL := Rd.later RL hbx
  clear hbx
  generalize (wj.alloc (.cells #[.int .i64 c.capacity, .int .i64 c.charge, .int .i64 c.most] 30)) = wk at *
  generalize wj.heap.size = pkc at zc0 zc1 zc2 ⊢
  obtain ⟨wj, hwk⟩ : ∃ wj, wj = wk := ⟨_, rfl⟩
  rw [← hwk] at BJ hcj RL zc0 zc1 zc2 ⊢; clear hwk wk
  go_wp2_with fail
  refine (LongestRank_any L c n _ _ _ RL kOk (by unfold maxLen; omega) hcap).mono ?_
  rintro e wj ⟨rfl, b1⟩
  have BJ := below_step BJ b1 (Nat.le_refl _); have hcj := hcj.later b1; replace RL := Rd.later RL b1; replace zc0 := below_cell b1 zc0; replace zc1 := below_cell b1 zc1; replace zc2 := below_cell b1 zc2
  clear b1
  rw [← HV.out, ← HKB.out]
  go_wp2_with fail
  refine (LongestRank_spec L c n _ _ _ RL kOk (by unfold maxLen; omega)).mono ?_
  rintro e wj ⟨rfl, b1⟩
  have BJ := below_step BJ b1 (Nat.le_refl _); have hcj := hcj.later b1; replace RL := Rd.later RL b1; replace zc0 := below_cell b1 zc0; replace zc1 := below_cell b1 zc1; replace zc2 := below_cell b1 zc2
  clear b1
  rw [← HV.out, ← HKB.out]
  obtain ⟨tb, htb⟩ : ∃ tb, tb = (kb && decide (0 < V)) := ⟨_, rfl⟩
  have HTB := hide htb; clear htb
  go_upto_region 31 with fail
  go_cut [207] (fun v wx => v = .bool tb ∧ Below wj.heap.size wj wx)
  case first =>
    as_aux_lemma =>
      cases kb
      · obtain rfl : tb = false := HTB.out
        go_wp2_with fail
        go_meet
        exact ⟨rfl, Below.refl _ _⟩
      · by_cases h0 : 0 < V
        · obtain rfl : tb = true := by rw [HTB.out]; simpa using h0
          go_wp2_with fail
          go_meet
          exact ⟨rfl, Below.refl _ _⟩
        · obtain rfl : tb = false := by rw [HTB.out]; simp; omega
          go_wp2_with fail
          go_meet
          exact ⟨rfl, Below.refl _ _⟩
  obtain ⟨rfl, b1⟩ := hcut
  have BJ := below_step BJ b1 (Nat.le_refl _); have hcj := hcj.later b1; replace RL := Rd.later RL b1; replace zc0 := below_cell b1 zc0; replace zc1 := below_cell b1 zc1; replace zc2 := below_cell b1 zc2
  clear b1 HV HKB
  obtain ⟨wj, hwk⟩ : ∃ wj, wj = wc := ⟨_, rfl⟩; subst hwk
  as_aux_lemma =>
  go_upto_if 207 with fail
  go_cut [33, 34, 35, 36] (fun _ _ _ _ wx => Below wj.heap.size wj wx)
  case first =>
    as_aux_lemma =>
      cases tb
      · go_wp2_with fail
        go_meet
        exact Below.refl _ _
      · have hkv : kb = true ∧ 0 < V := by have h := HTB.out.symm; simpa using h
        obtain ⟨t1, t2⟩ := HLL.out hkv.1 hkv.2
        obtain ⟨E, hE⟩ : ∃ E, E = emV L V := ⟨_, rfl⟩
        rw [← hE] at t2; have HT1 := hide t1; have HT2 := hide t2; have HE := hide hE; clear t1 t2 hE HLL hkv HTB
        obtain ⟨w9, hw9⟩ : ∃ w9, w9 = wj := ⟨_, rfl⟩
        have B9 : Below w9.heap.size w9 wj := hw9 ▸ Below.refl _ _
        go_wp2_with fail
        refine (EmergencyLoad_any L V _ _ _ RL kOk (by unfold maxLen; omega) hcap).mono ?_
        rintro e wj ⟨rfl, b1⟩
        have BJ := below_step BJ b1 (Nat.le_refl _); have hcj := hcj.later b1; replace RL := Rd.later RL b1; replace zc0 := below_cell b1 zc0; replace zc1 := below_cell b1 zc1; replace zc2 := below_cell b1 zc2
        have B9 := below_step B9 b1 (Nat.le_refl _); clear b1
        rw [HT1.out, ← HE.out]
        go_wp2_with fail
        refine (TakeOut_any c E n _).mono ?_
        rintro e wj ⟨rfl, b1⟩
        have BJ := below_step BJ b1 (Nat.le_refl _); have hcj := hcj.later b1; replace RL := Rd.later RL b1; replace zc0 := below_cell b1 zc0; replace zc1 := below_cell b1 zc1; replace zc2 := below_cell b1 zc2
        have B9 := below_step B9 b1 (Nat.le_refl _); clear b1
        rw [HT2.out]
        obtain ⟨Y1, hY1⟩ : ∃ Y1, Y1 = tkV c E n := ⟨_, rfl⟩
        rw [← hY1]; clear hY1
        have B9 := below_step B9 (show Below wj.heap.size wj (wj.alloc (.cells #[.int .i64 Y1.capacity, .int .i64 Y1.charge, .int .i64 Y1.most] 30)) from (Below.refl _ _).alloc (Nat.le_refl _) _) (Nat.le_refl _)
        go_wp2_with fail
        go_meet
        rw [← hw9]; exact B9
  have b1 := hcut; clear hcut
  clear zc0 zc1 zc2
  clear RL
  have BJ := below_step BJ b1 (Nat.le_refl _); have hcj := hcj.later b1
  clear b1 HTB HLL lv0 lv1 zL hcap kOk
  obtain ⟨wj, hwk⟩ : ∃ wj, wj = wc := ⟨_, rfl⟩; subst hwk
  as_aux_lemma =>
  go_wp2_with fail
  refine (DrawPeakOf_any A Lc cap _ hcj).mono ?_
  rintro e wj ⟨A1, A2, c1, c2, P, Q, rfl, zP, zQ, _, _, RP, RQ, b1⟩
  have BJ := below_step BJ b1 (Nat.le_refl _); have hcj := hcj.later b1; clear b1
  go_wp2_with fail
  refine (PeakOf_any P Q _ _ _ _ _ RP RQ (by omega) (by omega)).mono ?_
  rintro e wj ⟨rfl, b1⟩
  have BJ := below_step BJ b1 (Nat.le_refl _); have hcj := hcj.later b1; replace RP := Rd.later RP b1; replace RQ := Rd.later RQ b1
  clear b1
  go_wp2_with fail
  refine (PeakOf_spec P Q _ _ _ _ _ RP RQ (by omega) (by omega)).mono ?_
  rintro e wj ⟨rfl, b1⟩
  have BJ := below_step BJ b1 (Nat.le_refl _); have hcj := hcj.later b1; replace RP := Rd.later RP b1; replace RQ := Rd.later RQ b1
  clear b1
  generalize peakV P Q = pv; generalize peakE P Q = pe; generalize peakB P Q = pb
  go_wp2_with fail
  go_ret; exact ⟨by simp, BJ⟩
open Go.ChangeShapes Go.WideShapes Go.ChangeAt Go.RowKit
theorem elU8 {H : Type} {enc : TypeId × Value → H} {w : World} {base : Nat} {spare : Nat → Bool} {held : Bool} (n : Nat) (cs : List Value) (y : DataW H × List MemPlace) (h : DataW.trod enc Try.prog w base spare held n 5 cs = some y) : ∃ c : Int, cs = encU8 c ∧ 0 ≤ c ∧ c < 256 := by
  obtain ⟨k, hk, _, hw⟩ := DataW.trod_int Try.underlying5 h
  have hw2 : 0 ≤ k ∧ k ≤ 255 := by simpa [Lit.wf, IntKind.min, IntKind.max, IntKind.bits, IntKind.signed] using hw
  exact ⟨k, hk, by omega, by omega⟩
set_option maxRecDepth 100000 in
theorem lifted (os : Os) (started : os.Started) (H : Type) (enc : TypeId × Value → H) :
    ReturnsInHanded {} Try.checked os 4 .any (Rows.fnBatteriesSpec.pre6 enc Try.prog Try.f4 Rows.fnBatteriesRow.domain false) (Rows.fnBatteriesSpec.post enc Try.prog Try.f4 false true false false) := by
  refine returnsInHanded_of_change (C := Try.checked) own started (by kernel_rfl) Try.func4
    (ChangeSpec.witness6 (enc := enc) (C := Try.checked) false ⟨#[], #[.slice none 0 0], []⟩ 8 (by kernel_rfl) (by kernel_rfl) (by kernel_rfl) (by kernel_rfl)) ?_
  intro W base args ds gs before hval0 hW hcnd _
  have hval : ∀ (j : Nat) t v, Try.f4.params[j]? = some t → args[j]? = some v → Value.okWide Try.prog W .any base t v := hval0
  have hW' := hW
  obtain ⟨p, q, hA0, hV, rfl, hfz, hnd⟩ := hW
  have hA : DataW.TrodAll enc Try.prog W 0 (fun _ => true) true Try.f4.params.toList args.toList ds p := hA0
  rw [Try.params4] at hA hval
  obtain ⟨v0, vs0, d0, ds0, p0, q0, hargs, rfl, rfl, h0, e0⟩ := trodAll_cons hA
  obtain ⟨rfl, rfl, rfl⟩ := trodAll_nil e0
  obtain rfl : args = #[v0] := by cases args; simp_all
  obtain ⟨rfl, rfl⟩ := trodVars_none hV
  have k0 := h0
  have lt0 : ∀ x ∈ p0, x.block < W.heap.size := by obtain ⟨m, hm⟩ := k0; exact DataW.trod_lt m _ _ _ hm
  obtain ⟨A0, len0, c0, rfl⟩ := okWide_slice Try.underlying34 (hval 0 34 v0 rfl rfl)
  obtain ⟨fu0, hf0⟩ := h0
  obtain ⟨L0, rfl, r0, g0, l0⟩ := open_list (encα := encU8) (m := 1) (Good := fun c => 0 ≤ c ∧ c < 256) Try.underlying34 (by kernel_rfl) (by decide) encU8_len elU8 hf0
  clear hA0 hval0
  refine (walk L0 A0 c0 W ⟨l0, g0, r0⟩).mono fun e W' ⟨he, bel⟩ => ?_
  subst he
  exact ⟨_, rfl, _, _, _, [], _, [], hW', trodAll_mk1 (shut_bool Try.underlying4 _), (trodAll_cons_mk (Below.trod laidOut (by kernel_rfl) (of_decide_eq_true (by kernel_rfl)) k0 bel lt0) trodAll_mk0), rfl, bel.frame _, fun h => by cases h⟩
theorem over : Rows.fnBatteriesRow.holds Try.pinned (OpenSpec.ofChange Rows.fnBatteriesSpec) :=
  OpenClaim.holds_of_wide 4 Try.f4 rfl rfl rfl rfl rfl rfl rfl ⟨rfl, rfl, rfl, rfl, rfl⟩ rfl rfl rfl rfl rfl (by kernel_rfl) Try.func4 (by kernel_rfl)
    (of_decide_eq_true (by kernel_rfl)) (by unfold Func.isWrapper; first | (rw [if_pos (by decide +kernel)]; kernel_rfl) | (rw [if_neg (by decide +kernel)]; exact ⟨rfl, rfl⟩))
    (fun os started H enc _ => lifted os started H enc)
theorem proved : Rows.FnBatteriesSaid := over
#print axioms proved
end Go.Proofs.Ytafefnpmgpmjpaa.lawBatteries
