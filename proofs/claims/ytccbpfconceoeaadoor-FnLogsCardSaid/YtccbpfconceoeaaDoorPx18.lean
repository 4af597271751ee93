-- Written by wip/mp.py of this session over the kit's printer; Lean checks it.
import Derived.Test.YtccbpfconceoeaaDoorPx0
import Derived.Test.YtccbpfconceoeaaDoorPx1
import Derived.Test.YtccbpfconceoeaaDoorPx2
import Derived.Test.YtccbpfconceoeaaDoorPx5
import Derived.Test.YtccbpfconceoeaaDoorPx7
import Derived.Test.YtccbpfconceoeaaDoorPx10
import Derived.Test.YtccbpfconceoeaaDoorPx12
import Derived.Test.YtccbpfconceoeaaDoorPx15
import Derived.Test.YtccbpfconceoeaaDoorPx16
import Derived.Test.YtccbpfconceoeaaDoorPx17
namespace Go.Proofs.YtccbpfconceoeaaDoor.P
open Go.RowKit Go.Proofs.YtccbpfconceoeaaDoorW.PrintWords Go.Proofs.YtccbpfconceoeaaDoorW.PrintLast Go.Proofs.YtccbpfconceoeaaDoorW.PrintMore
attribute [local go_sem] max2_int min2_int max_two min_two max_three min_three max_four min_four   -- for this text's walks alone
set_option linter.unusedVariables false
set_option linter.unusedSimpArgs false

attribute [local go_sem high] eqA27 eqA31
/-! ### laws_FnLogs: function 10 -/
def laws_FnLogs.T11 : Bool × List (List Nat × List Nat) := (true, [([], []), ([0], [0]), ([], []), ([2, 1], [2]), ([1, 3], [1, 3]), ([4, 3], [4]), ([5], [5]), ([5], [5]), ([6, 7, 5], [5, 6, 7]), ([5, 8], [5, 8]), ([9, 5], [9]), ([10], [10]), ([10], [10]), ([11, 12, 10], [10, 11, 12]), ([10, 13], [10, 13]), ([14, 10], [14]), ([15], [15]), ([16, 15, 15], [15, 16]), ([15], [15]), ([18, 17, 15], [15, 18]), ([17, 19, 15], [15, 17, 19]), ([15, 20], [15, 20]), ([21, 19], [21]), ([22], [22]), ([22], [22]), ([23, 24, 22], [22, 23, 24]), ([22, 25], [22, 25]), ([26, 22], [26]), ([27], [27]), ([27], [27]), ([28, 29, 27], [27, 28, 29]), ([27, 30], [27, 30])])
def laws_FnLogs.B11 : List Nat := [0, 1, 0, 7, 15, 31, 63, 63, 255, 511, 1023, 2047, 2047, 8191, 16383, 32767, 65535, 131071, 65535, 524287, 1048575, 2097151, 4194303, 8388607, 8388607, 33554431, 67108863, 134217727, 268435455, 268435455, 1073741823, 2147483647]
theorem laws_FnLogs.tab11 : rtab .any (opsOf Tryd.f10 11) = laws_FnLogs.T11 := by kernel_rfl
theorem laws_FnLogs.bits11 : waitsOk laws_FnLogs.T11.2 laws_FnLogs.B11 = true := by kernel_rfl
def laws_FnLogs.T25 : Bool × List (List Nat × List Nat) := (true, [([], []), ([0], [0]), ([1, 1], [1]), ([2], [2]), ([3, 2], [2, 3]), ([2], [2]), ([5, 2], [2, 5]), ([6, 2], [2, 6]), ([4, 7, 2], [2, 4, 7]), ([2, 8], [2, 8]), ([9, 2], [9]), ([10], [10]), ([10], [10]), ([12, 10], [10, 12]), ([11, 13, 10], [10, 11, 13]), ([10], [10]), ([14, 15, 10, 10], [10, 14, 15]), ([10, 16], [10, 16]), ([17, 16], [17]), ([18], [18]), ([18], [18]), ([20, 18], [18, 20]), ([19, 21, 18], [18, 19, 21]), ([22, 18], [18, 22]), ([18], [18]), ([23, 24, 18], [18, 23, 24]), ([18, 25], [18, 25]), ([26, 18, 0, 1, 2, 3, 4, 5, 6, 7, 8, 9, 10, 11, 12, 13, 14, 15, 16, 17, 18, 19, 20, 21, 22, 23, 24, 25, 26], [26])])
def laws_FnLogs.B25 : List Nat := [0, 1, 3, 7, 15, 7, 39, 103, 255, 511, 1023, 2047, 2047, 6143, 16383, 2047, 65535, 131071, 262143, 524287, 524287, 1572863, 4194303, 8388607, 524287, 33554431, 67108863, 134217727]
theorem laws_FnLogs.tab25 : rtab .any (opsOf Tryd.f10 25) = laws_FnLogs.T25 := by kernel_rfl
theorem laws_FnLogs.bits25 : waitsOk laws_FnLogs.T25.2 laws_FnLogs.B25 = true := by kernel_rfl
set_option maxHeartbeats 8000000 in
set_option maxRecDepth 100000 in
theorem laws_FnLogs.calls (k : Nat) (A0 : Option Addr) (c0 : Nat) (l0 : List Int) (w : World) (hr0 : Kd.C (Kd.int .u8) w A0 l0.length l0) (hc0 : l0.length ≤ c0) (hG : GT w) (h : laws_FnLogs.f k l0 = some true) :
    Calls Tryd.prog 10 #[.slice A0 l0.length c0] w fun e w' => e = .returned (.bool true) ∧ Below w.heap.size w w' := by
  have hu27 := Tryd.underlying27
  have hu31 := Tryd.underlying31
  have hG_ := Aside0.mk hG
  clear hG
  have HR0 := Aside0.mk hr0
  have HC0 := Aside0.mk hc0
  clear hr0 hc0
  have HB := Aside0.mk (Below.refl w.heap.size w)
  have H : ((laws_vBig.f l0).bind fun t571 => (if t571 = true then (some true) else ((spec_DrawIsValidRecord.f l0).bind fun bt572 => ((laws_vCut.f k l0 1).bind fun t575 => ((spec_DrawEncodeRecord.f t575).bind fun bt578 => ((impl_EncodeRecord.f k bt578.1 bt578.2.1 bt578.2.2).bind fun bt582 => ((spec_EncodeRecord.f k bt578.1 bt578.2.1 bt578.2.2).bind fun bt584 => ((laws_vCut.f k l0 2).bind fun t586 => ((spec_DrawIsValidLog.f k t586).bind fun bt589 => ((laws_vCut.f k l0 3).bind fun t593 => ((spec_DrawAppendRecord.f k t593).bind fun bt596 => ((impl_AppendRecord.f k bt596.1 bt596.2.1 bt596.2.2.1 bt596.2.2.2.1 bt596.2.2.2.2).bind fun bt603 => ((spec_AppendRecord.f k bt596.1 bt596.2.1 bt596.2.2.1 bt596.2.2.2.1 bt596.2.2.2.2).bind fun bt608 => ((impl_IsValidRecord.f k bt572.1 bt572.2).bind fun t613 => ((spec_IsValidRecord.f k bt572.1 bt572.2).bind fun t614 => (if (t613 != t614) = true then (laws_FnLogs.j0 k bt603.2.2.2 true bt596.1 bt596.2.1 bt596.2.2.1 bt596.2.2.2.1 bt596.2.2.2.2 bt603.1 bt603.2.1 bt603.2.2.1) else (if bt582.1.toList = bt584.1.toList then (if (bt582.2 != bt584.2) = true then (laws_FnLogs.j0 k bt603.2.2.2 true bt596.1 bt596.2.1 bt596.2.2.1 bt596.2.2.2.1 bt596.2.2.2.2 bt603.1 bt603.2.1 bt603.2.2.1) else ((impl_IsValidLog.f k bt589.1 bt589.2.1 bt589.2.2).bind fun t615 => ((spec_IsValidLog.f k bt589.1 bt589.2.1 bt589.2.2).bind fun t616 => (if (t615 != t616) = true then (laws_FnLogs.j0 k bt603.2.2.2 true bt596.1 bt596.2.1 bt596.2.2.1 bt596.2.2.2.1 bt596.2.2.2.2 bt603.1 bt603.2.1 bt603.2.2.1) else (if (!(bt603.1.toList == bt608.1.toList) || (!(bt603.2.1.toList == bt608.2.1.toList) || (!(bt603.2.2.1 == bt608.2.2.1)))) = true then (laws_FnLogs.j0 k bt603.2.2.2 true bt596.1 bt596.2.1 bt596.2.2.1 bt596.2.2.2.1 bt596.2.2.2.2 bt603.1 bt603.2.1 bt603.2.2.1) else (laws_FnLogs.j0 k bt603.2.2.2 (bt603.2.2.2 != bt608.2.2.2) bt596.1 bt596.2.1 bt596.2.2.1 bt596.2.2.2.1 bt596.2.2.2.2 bt603.1 bt603.2.1 bt603.2.2.1)))))) else (laws_FnLogs.j0 k bt603.2.2.2 true bt596.1 bt596.2.1 bt596.2.2.1 bt596.2.2.2.1 bt596.2.2.2.2 bt603.1 bt603.2.1 bt603.2.2.1)))))))))))))))))) = some true := h
  clear h
  replace H := Option.bind_eq_some_iff.mp H
  obtain ⟨t571, A20, H⟩ := H
  have A2 := Aside0.mk A20
  clear A20
  by_cases c3 : t571 = true
  · subst c3
    have H1 : (some true) = some true := by first | with_reducible rfl | (rw [if_pos rfl] at H; exact H)
    clear H
    have H := H1
    clear H1
    clear H
    go_enter Tryd.func10, Tryd.ntmps10
    go_wp2_with (first | ((with_reducible refine gate_callee (f := 34) rfl ?_); refine goesL_ (some 30) rfl rfl Tryd.func34 (by kernel_rfl) rfl #[.slice A0 l0.length c0] rfl (by (try simp only [List.map_toArray, List.map_cons, List.map_nil]); first | done | rfl | (simp only [List.length_drop, List.length_take]; rfl)) ?_; (with_reducible refine (laws_vBig.calls _ _ l0 true _ ?side1 ?side2 A2.out).mono ?_); (case side1 => repeat (first | exact HR0.out | (with_reducible refine Kd.C_alloc ?_ _) | (with_reducible refine Kd.C_drewN ?_ _) | (with_reducible refine Kd.C_drew ?_))); (case side2 => exact HC0.out); rintro e w' ⟨rfl, ⟨nd, rfl⟩⟩; refine ⟨_, rfl, ?_⟩))
    go_ret
    exact ⟨by first | rfl | (simp [errW_none, errW_some] <;> rfl) | (simp [*, errW_none, errW_some] <;> rfl), by repeat (first | (with_reducible first | exact HB.out | apply below_alloc | apply pw_below_drewN | apply below_drew1) | exact HB.out)⟩
  · replace c3 := Bool.eq_false_iff.mpr c3
    subst c3
    have H1 : ((spec_DrawIsValidRecord.f l0).bind fun bt572 => ((laws_vCut.f k l0 1).bind fun t575 => ((spec_DrawEncodeRecord.f t575).bind fun bt578 => ((impl_EncodeRecord.f k bt578.1 bt578.2.1 bt578.2.2).bind fun bt582 => ((spec_EncodeRecord.f k bt578.1 bt578.2.1 bt578.2.2).bind fun bt584 => ((laws_vCut.f k l0 2).bind fun t586 => ((spec_DrawIsValidLog.f k t586).bind fun bt589 => ((laws_vCut.f k l0 3).bind fun t593 => ((spec_DrawAppendRecord.f k t593).bind fun bt596 => ((impl_AppendRecord.f k bt596.1 bt596.2.1 bt596.2.2.1 bt596.2.2.2.1 bt596.2.2.2.2).bind fun bt603 => ((spec_AppendRecord.f k bt596.1 bt596.2.1 bt596.2.2.1 bt596.2.2.2.1 bt596.2.2.2.2).bind fun bt608 => ((impl_IsValidRecord.f k bt572.1 bt572.2).bind fun t613 => ((spec_IsValidRecord.f k bt572.1 bt572.2).bind fun t614 => (if (t613 != t614) = true then (laws_FnLogs.j0 k bt603.2.2.2 true bt596.1 bt596.2.1 bt596.2.2.1 bt596.2.2.2.1 bt596.2.2.2.2 bt603.1 bt603.2.1 bt603.2.2.1) else (if bt582.1.toList = bt584.1.toList then (if (bt582.2 != bt584.2) = true then (laws_FnLogs.j0 k bt603.2.2.2 true bt596.1 bt596.2.1 bt596.2.2.1 bt596.2.2.2.1 bt596.2.2.2.2 bt603.1 bt603.2.1 bt603.2.2.1) else ((impl_IsValidLog.f k bt589.1 bt589.2.1 bt589.2.2).bind fun t615 => ((spec_IsValidLog.f k bt589.1 bt589.2.1 bt589.2.2).bind fun t616 => (if (t615 != t616) = true then (laws_FnLogs.j0 k bt603.2.2.2 true bt596.1 bt596.2.1 bt596.2.2.1 bt596.2.2.2.1 bt596.2.2.2.2 bt603.1 bt603.2.1 bt603.2.2.1) else (if (!(bt603.1.toList == bt608.1.toList) || (!(bt603.2.1.toList == bt608.2.1.toList) || (!(bt603.2.2.1 == bt608.2.2.1)))) = true then (laws_FnLogs.j0 k bt603.2.2.2 true bt596.1 bt596.2.1 bt596.2.2.1 bt596.2.2.2.1 bt596.2.2.2.2 bt603.1 bt603.2.1 bt603.2.2.1) else (laws_FnLogs.j0 k bt603.2.2.2 (bt603.2.2.2 != bt608.2.2.2) bt596.1 bt596.2.1 bt596.2.2.1 bt596.2.2.2.1 bt596.2.2.2.2 bt603.1 bt603.2.1 bt603.2.2.1)))))) else (laws_FnLogs.j0 k bt603.2.2.2 true bt596.1 bt596.2.1 bt596.2.2.1 bt596.2.2.2.1 bt596.2.2.2.2 bt603.1 bt603.2.1 bt603.2.2.1)))))))))))))))) = some true := by rw [if_neg (show ¬ (false = true) by decide)] at H; exact H
    clear H
    have H := H1
    clear H1
    replace H := Option.bind_eq_some_iff.mp H
    obtain ⟨⟨t572, t573⟩, A40, H⟩ := H
    dsimp only at H
    have A4 := Aside0.mk A40
    clear A40
    replace H := Option.bind_eq_some_iff.mp H
    obtain ⟨t575, A50, H⟩ := H
    have A5 := Aside0.mk A50
    clear A50
    replace H := Option.bind_eq_some_iff.mp H
    obtain ⟨⟨t578, t579, t580⟩, A60, H⟩ := H
    dsimp only at H
    have A6 := Aside0.mk A60
    clear A60
    replace H := Option.bind_eq_some_iff.mp H
    obtain ⟨⟨t582, t583⟩, A70, H⟩ := H
    dsimp only at H
    have A7 := Aside0.mk A70
    clear A70
    replace H := Option.bind_eq_some_iff.mp H
    obtain ⟨⟨t584, t585⟩, A80, H⟩ := H
    dsimp only at H
    have A8 := Aside0.mk A80
    clear A80
    replace H := Option.bind_eq_some_iff.mp H
    obtain ⟨t586, A90, H⟩ := H
    have A9 := Aside0.mk A90
    clear A90
    replace H := Option.bind_eq_some_iff.mp H
    obtain ⟨⟨t589, t590, t591⟩, A100, H⟩ := H
    dsimp only at H
    have A10 := Aside0.mk A100
    clear A100
    replace H := Option.bind_eq_some_iff.mp H
    obtain ⟨t593, A110, H⟩ := H
    have A11 := Aside0.mk A110
    clear A110
    replace H := Option.bind_eq_some_iff.mp H
    obtain ⟨⟨t596, t597, t598, t599, t600⟩, A120, H⟩ := H
    dsimp only at H
    have A12 := Aside0.mk A120
    clear A120
    replace H := Option.bind_eq_some_iff.mp H
    obtain ⟨⟨t603, t604, t605, t606⟩, A130, H⟩ := H
    dsimp only at H
    have A13 := Aside0.mk A130
    clear A130
    replace H := Option.bind_eq_some_iff.mp H
    obtain ⟨⟨t608, t609, t610, t611⟩, A140, H⟩ := H
    dsimp only at H
    have A14 := Aside0.mk A140
    clear A140
    have HC15 := Aside0.mk H
    clear H
    go_enter Tryd.func10, Tryd.ntmps10
    go_upto_region 11 with (first | ((with_reducible refine gate_callee (f := 34) rfl ?_); refine goesL_ (some 30) rfl rfl Tryd.func34 (by kernel_rfl) rfl #[.slice A0 l0.length c0] rfl (by (try simp only [List.map_toArray, List.map_cons, List.map_nil]); first | done | rfl | (simp only [List.length_drop, List.length_take]; rfl)) ?_; (with_reducible refine (laws_vBig.calls _ _ l0 false _ ?side1 ?side2 A2.out).mono ?_); (case side1 => repeat (first | exact HR0.out | (with_reducible refine Kd.C_alloc ?_ _) | (with_reducible refine Kd.C_drewN ?_ _) | (with_reducible refine Kd.C_drew ?_))); (case side2 => exact HC0.out); rintro e w' ⟨rfl, ⟨nd, rfl⟩⟩; refine ⟨_, rfl, ?_⟩) | ((with_reducible refine gate_callee (f := 35) rfl ?_); refine goesL_ (some 32) rfl rfl Tryd.func35 (by kernel_rfl) rfl #[.slice A0 l0.length c0] rfl (by (try simp only [List.map_toArray, List.map_cons, List.map_nil]); first | done | rfl | (simp only [List.length_drop, List.length_take]; rfl)) ?_; (with_reducible refine (spec_DrawIsValidRecord.calls _ _ l0 t572 t573 _ ?side1 ?side2 A4.out).mono ?_); (case side1 => repeat (first | exact HR0.out | (with_reducible refine Kd.C_alloc ?_ _) | (with_reducible refine Kd.C_drewN ?_ _) | (with_reducible refine Kd.C_drew ?_))); (case side2 => exact HC0.out); rintro e w16 ⟨rfl, hb⟩; refine ⟨_, rfl, ?_⟩; have n0_ := Aside0.mk (below_step (by repeat (first | (with_reducible first | exact HB.out | apply below_alloc | apply pw_below_drewN | apply below_drew1) | exact HB.out)) hb); clear HB; have HB := n0_; clear n0_; (try clear hb); (try clear hb2); (try clear hk); (try clear hi)) | ((with_reducible refine gate_dst (N := 3) rfl ?_); (try (refine gate_guard (by rfl) ?_; dsimp only)); refine box_event ?hg (N := 3) ?hd (cs := #[.string (⟨#[]⟩ : ByteArray), .string (⟨#[]⟩ : ByteArray)]) (t := 27) ?hr ?_; (case hd => rfl); (case hg => rfl); (case hr => first | (go_simp; done) | (go_simp; rfl)); intro gb574 hg w17 hbox hb; have n0_ := Aside0.mk (below_step (by repeat (first | (with_reducible first | exact HB.out | apply below_alloc | apply pw_below_drewN | apply below_drew1) | exact HB.out)) hb); have n1_ := Aside0.mk (hbox); have n2_ := Aside0.mk ((by rw [hg]; exact (below_size (by repeat (first | (with_reducible first | exact HB.out | apply below_alloc | apply pw_below_drewN | apply below_drew1) | exact HB.out))) : w.heap.size ≤ gb574)); have n3_ := Aside0.mk ((by rw [hg]; exact (below_size (by repeat (first | (with_reducible first | exact HB.out | apply below_alloc | apply pw_below_drewN | apply below_drew1) | exact HB.out))) : w.heap.size ≤ gb574)); clear HB; have HB := n0_; have BK574 := n1_; have GW574 := n2_; have GE574 := n3_; clear n0_ n1_ n2_ n3_; clear hb hbox hg; have hcz18_0 : w17.cell? ⟨gb574, 0, none⟩ = some (.string (⟨#[]⟩ : ByteArray)) := (blk_cell BK574.out 0).trans rfl; have hcz18_1 : w17.cell? ⟨gb574, 1, none⟩ = some (.string (⟨#[]⟩ : ByteArray)) := (blk_cell BK574.out 1).trans rfl; have hfz18_0 := blk_frozen BK574.out 0; have hfz18_1 := blk_frozen BK574.out 1) | ((with_reducible refine gate_callee (f := 37) rfl ?_); refine goesL_ (some 35) rfl rfl Tryd.func37 (by kernel_rfl) rfl #[.slice A0 l0.length c0, .int .i64 1] rfl (by (try simp only [List.map_toArray, List.map_cons, List.map_nil]); first | done | rfl | (simp only [List.length_drop, List.length_take]; rfl)) ?_; (with_reducible refine (laws_vCut.calls k _ _ l0 1 t575 _ ?side1 ?side2 A5.out).mono ?_); (case side1 => exact Kd.C_below HR0.out (by repeat (first | (with_reducible first | exact HB.out | apply below_alloc | apply pw_below_drewN | apply below_drew1 | refine below_set ?_ GE574.out) | exact HB.out))); (case side2 => exact HC0.out); rintro e w19 ⟨v576, rfl, ho0, hb⟩; refine ⟨_, rfl, ?_⟩; have n0_ := Aside0.mk (Kd.R_lower ho0 (below_size (by repeat (first | (with_reducible first | exact HB.out | apply below_alloc | apply pw_below_drewN | apply below_drew1 | refine below_set ?_ GE574.out) | exact HB.out)))); have n1_ := Aside0.mk (blk_below (g := gb574) (o := .cells #[.string t572, .string t573] 27 (0, 0)) (by (with_reducible repeat (first | refine blk_drewN ?_ _ | refine blk_drew ?_ | refine blk_alloc ?_ _)); refine blk_put (cs := #[.string t572, .string (⟨#[]⟩ : ByteArray)]) ?_ 1 _ rfl; (with_reducible repeat (first | refine blk_drewN ?_ _ | refine blk_drew ?_ | refine blk_alloc ?_ _)); refine blk_put (cs := #[.string (⟨#[]⟩ : ByteArray), .string (⟨#[]⟩ : ByteArray)]) ?_ 0 _ rfl; (with_reducible repeat (first | refine blk_drewN ?_ _ | refine blk_drew ?_ | refine blk_alloc ?_ _)); exact BK574.out) hb); have n2_ := Aside0.mk (below_step (by repeat (first | (with_reducible first | exact HB.out | apply below_alloc | apply pw_below_drewN | apply below_drew1 | refine below_set ?_ GE574.out) | exact HB.out)) hb); clear BK574; clear HB; have HO577 := n0_; have BK574 := n1_; have HB := n2_; clear n0_ n1_ n2_; (try clear hb); (try clear hb2); (try clear hk); (try clear hi); (try clear ho0); obtain ⟨Ao20, co20, eo20⟩ := Kd.R_slice HO577.out; subst eo20) | ((with_reducible refine gate_callee (f := 36) rfl ?_); refine goesL_ (some 36) rfl rfl Tryd.func36 (by kernel_rfl) rfl #[.slice Ao20 t575.length co20] rfl (by (try simp only [List.map_toArray, List.map_cons, List.map_nil]); first | done | rfl | (simp only [List.length_drop, List.length_take]; rfl)) ?_; (with_reducible refine (spec_DrawEncodeRecord.calls _ _ t575 t578 t579 t580 _ ?side1 ?side2 A6.out).mono ?_); (case side1 => repeat (first | exact (Kd.R_reads' HO577.out).2.2 | (with_reducible refine Kd.C_alloc ?_ _) | (with_reducible refine Kd.C_drewN ?_ _) | (with_reducible refine Kd.C_drew ?_))); (case side2 => exact (Kd.R_reads' HO577.out).2.1); rintro e w21 ⟨rfl, hb⟩; refine ⟨_, rfl, ?_⟩; have n0_ := Aside0.mk (Kd.R_below (by (with_reducible repeat (first | apply Kd.R_alloc | apply Kd.R_drewN | apply Kd.R_drew)); exact HO577.out) hb); have n1_ := Aside0.mk (blk_below BK574.out hb); have n2_ := Aside0.mk (below_step (by repeat (first | (with_reducible first | exact HB.out | apply below_alloc | apply pw_below_drewN | apply below_drew1 | refine below_set ?_ GE574.out) | exact HB.out)) hb); clear HO577; clear BK574; clear HB; have HO577 := n0_; have BK574 := n1_; have HB := n2_; clear n0_ n1_ n2_; (try clear hb); (try clear hb2); (try clear hk); (try clear hi)) | ((with_reducible refine gate_dst (N := 5) rfl ?_); (try (refine gate_guard (by rfl) ?_; dsimp only)); refine box_event ?hg (N := 5) ?hd (cs := #[.string (⟨#[]⟩ : ByteArray), .string (⟨#[]⟩ : ByteArray)]) (t := 27) ?hr ?_; (case hd => rfl); (case hg => rfl); (case hr => first | (go_simp; done) | (go_simp; rfl)); intro gb581 hg w22 hbox hb; have n0_ := Aside0.mk (Kd.R_below (by (with_reducible repeat (first | apply Kd.R_alloc | apply Kd.R_drewN | apply Kd.R_drew)); exact HO577.out) hb); have n1_ := Aside0.mk (blk_below BK574.out hb); have n2_ := Aside0.mk (below_step (by repeat (first | (with_reducible first | exact HB.out | apply below_alloc | apply pw_below_drewN | apply below_drew1 | refine below_set ?_ GE574.out) | exact HB.out)) hb); have n3_ := Aside0.mk (hbox); have n4_ := Aside0.mk ((by rw [hg]; exact (below_size (by repeat (first | (with_reducible first | exact HB.out | apply below_alloc | apply pw_below_drewN | apply below_drew1 | refine below_set ?_ GE574.out) | exact HB.out))) : w.heap.size ≤ gb581)); have n5_ := Aside0.mk ((by rw [hg]; exact (below_size (by repeat (first | (with_reducible first | exact HB.out | apply below_alloc | apply pw_below_drewN | apply below_drew1 | refine below_set ?_ GE574.out) | exact HB.out))) : w.heap.size ≤ gb581)); have n6_ := Aside0.mk ((by rw [hg]; exact Nat.ne_of_lt (blk_lt (g := gb574) (o := .cells #[.string t572, .string t573] 27 (0, 0)) (by (with_reducible repeat (first | refine blk_drewN ?_ _ | refine blk_drew ?_ | refine blk_alloc ?_ _)); exact BK574.out)) : gb574 ≠ gb581)); have n7_ := Aside0.mk ((by rw [hg]; exact Nat.ne_of_gt (blk_lt (g := gb574) (o := .cells #[.string t572, .string t573] 27 (0, 0)) (by (with_reducible repeat (first | refine blk_drewN ?_ _ | refine blk_drew ?_ | refine blk_alloc ?_ _)); exact BK574.out)) : gb581 ≠ gb574)); clear HO577; clear BK574; clear HB; have HO577 := n0_; have BK574 := n1_; have HB := n2_; have BK581 := n3_; have GW581 := n4_; have GE581 := n5_; have NB574_581 := n6_; have NB581_574 := n7_; clear n0_ n1_ n2_ n3_ n4_ n5_ n6_ n7_; clear hb hbox hg; have hnb23 := NB581_574.out; have hnc23 := NB574_581.out; have hcz24_0 : w22.cell? ⟨gb581, 0, none⟩ = some (.string (⟨#[]⟩ : ByteArray)) := (blk_cell BK581.out 0).trans rfl; have hcz24_1 : w22.cell? ⟨gb581, 1, none⟩ = some (.string (⟨#[]⟩ : ByteArray)) := (blk_cell BK581.out 1).trans rfl; have hfz24_0 := blk_frozen BK581.out 0; have hfz24_1 := blk_frozen BK581.out 1) | ((with_reducible refine gate_callee (f := 15) rfl ?_); refine goesL_ (some 42) rfl rfl Tryd.func15 (by kernel_rfl) rfl #[.int .i64 t578, .agg #[.string t579, .string t580]] rfl (by (try simp only [List.map_toArray, List.map_cons, List.map_nil]); first | done | rfl | (simp only [List.length_drop, List.length_take]; rfl)) ?_; (with_reducible refine (impl_EncodeRecord.calls k t578 t579 t580 t582 t583 _ ?side1 A7.out).mono ?_); (case side1 => exact GT.below hG_.out (by repeat (first | (with_reducible first | exact HB.out | apply below_alloc | apply pw_below_drewN | apply below_drew1 | refine below_set ?_ GE574.out | refine below_set ?_ GE581.out) | exact HB.out)) (Nat.le_refl _)); rintro e w25 ⟨rfl, hb⟩; refine ⟨_, rfl, ?_⟩; have n0_ := Aside0.mk (Kd.R_below (by (with_reducible repeat (first | apply Kd.R_alloc | apply Kd.R_drewN | apply Kd.R_drew)); exact (Kd.R_mono (Kd.R_far (p := ⟨gb581, 1, none⟩) (Kd.R_far (p := ⟨gb581, 0, none⟩) (Kd.R_types HO577.out BK581.out (by decide)) (fun _ hk => hk.2) (.string t579)) (fun _ hk => hk.2) (.string t580)) (fun _ h_ => h_.1))) hb); have n1_ := Aside0.mk (blk_below (g := gb574) (o := .cells #[.string t572, .string t573] 27 (0, 0)) (by (with_reducible repeat (first | refine blk_drewN ?_ _ | refine blk_drew ?_ | refine blk_alloc ?_ _)); refine blk_far ?_ NB574_581.out _; (with_reducible repeat (first | refine blk_drewN ?_ _ | refine blk_drew ?_ | refine blk_alloc ?_ _)); refine blk_far ?_ NB574_581.out _; (with_reducible repeat (first | refine blk_drewN ?_ _ | refine blk_drew ?_ | refine blk_alloc ?_ _)); exact BK574.out) hb); have n2_ := Aside0.mk (blk_below (g := gb581) (o := .cells #[.string t579, .string t580] 27 (0, 0)) (by (with_reducible repeat (first | refine blk_drewN ?_ _ | refine blk_drew ?_ | refine blk_alloc ?_ _)); refine blk_put (cs := #[.string t579, .string (⟨#[]⟩ : ByteArray)]) ?_ 1 _ rfl; (with_reducible repeat (first | refine blk_drewN ?_ _ | refine blk_drew ?_ | refine blk_alloc ?_ _)); refine blk_put (cs := #[.string (⟨#[]⟩ : ByteArray), .string (⟨#[]⟩ : ByteArray)]) ?_ 0 _ rfl; (with_reducible repeat (first | refine blk_drewN ?_ _ | refine blk_drew ?_ | refine blk_alloc ?_ _)); exact BK581.out) hb); have n3_ := Aside0.mk (below_step (by repeat (first | (with_reducible first | exact HB.out | apply below_alloc | apply pw_below_drewN | apply below_drew1 | refine below_set ?_ GE574.out | refine below_set ?_ GE581.out) | exact HB.out)) hb); clear HO577; clear BK574; clear BK581; clear HB; have HO577 := n0_; have BK574 := n1_; have BK581 := n2_; have HB := n3_; clear n0_ n1_ n2_ n3_; (try clear hb); (try clear hb2); (try clear hk); (try clear hi); have hcz26_0 : w25.cell? ⟨gb581, 0, none⟩ = some (.string t579) := (blk_cell BK581.out 0).trans rfl; have hcz26_1 : w25.cell? ⟨gb581, 1, none⟩ = some (.string t580) := (blk_cell BK581.out 1).trans rfl; have hfz26_0 := blk_frozen BK581.out 0; have hfz26_1 := blk_frozen BK581.out 1) | ((with_reducible refine gate_callee (f := 13) rfl ?_); refine goesL_ (some 48) rfl rfl Tryd.func13 (by kernel_rfl) rfl #[.int .i64 t578, .agg #[.string t579, .string t580]] rfl (by (try simp only [List.map_toArray, List.map_cons, List.map_nil]); first | done | rfl | (simp only [List.length_drop, List.length_take]; rfl)) ?_; (with_reducible refine (spec_EncodeRecord.calls k t578 t579 t580 t584 t585 _ A8.out).mono ?_); rintro e w27 ⟨rfl, hb⟩; refine ⟨_, rfl, ?_⟩; have n0_ := Aside0.mk (Kd.R_below (by (with_reducible repeat (first | apply Kd.R_alloc | apply Kd.R_drewN | apply Kd.R_drew)); exact HO577.out) hb); have n1_ := Aside0.mk (blk_below BK574.out hb); have n2_ := Aside0.mk (blk_below BK581.out hb); have n3_ := Aside0.mk (below_step (by repeat (first | (with_reducible first | exact HB.out | apply below_alloc | apply pw_below_drewN | apply below_drew1 | refine below_set ?_ GE574.out | refine below_set ?_ GE581.out) | exact HB.out)) hb); clear HO577; clear BK574; clear BK581; clear HB; have HO577 := n0_; have BK574 := n1_; have BK581 := n2_; have HB := n3_; clear n0_ n1_ n2_ n3_; (try clear hb); (try clear hb2); (try clear hk); (try clear hi)) | ((with_reducible refine gate_callee (f := 37) rfl ?_); refine goesL_ (some 52) rfl rfl Tryd.func37 (by kernel_rfl) rfl #[.slice A0 l0.length c0, .int .i64 2] rfl (by (try simp only [List.map_toArray, List.map_cons, List.map_nil]); first | done | rfl | (simp only [List.length_drop, List.length_take]; rfl)) ?_; (with_reducible refine (laws_vCut.calls k _ _ l0 2 t586 _ ?side1 ?side2 A9.out).mono ?_); (case side1 => repeat (first | exact (Kd.C_below HR0.out HB.out) | (with_reducible refine Kd.C_alloc ?_ _) | (with_reducible refine Kd.C_drewN ?_ _) | (with_reducible refine Kd.C_drew ?_))); (case side2 => exact HC0.out); rintro e w28 ⟨v587, rfl, ho0, hb⟩; refine ⟨_, rfl, ?_⟩; have n0_ := Aside0.mk (Kd.R_elder' (by (with_reducible repeat (first | apply Kd.R_alloc | apply Kd.R_drewN | apply Kd.R_drew)); exact HO577.out) (Kd.R_base ho0) hb); have n1_ := Aside0.mk (Kd.R_lower (Kd.R_new' ho0 (Kd.R_lt (by (with_reducible repeat (first | apply Kd.R_alloc | apply Kd.R_drewN | apply Kd.R_drew)); exact HO577.out))) (below_size (by repeat (first | (with_reducible first | exact HB.out | apply below_alloc | apply pw_below_drewN | apply below_drew1 | refine below_set ?_ GE574.out | refine below_set ?_ GE581.out) | exact HB.out)))); have n2_ := Aside0.mk (blk_below BK574.out hb); have n3_ := Aside0.mk (blk_below BK581.out hb); have n4_ := Aside0.mk (below_step (by repeat (first | (with_reducible first | exact HB.out | apply below_alloc | apply pw_below_drewN | apply below_drew1 | refine below_set ?_ GE574.out | refine below_set ?_ GE581.out) | exact HB.out)) hb); clear HO577; clear BK574; clear BK581; clear HB; have HO577 := n0_; have HO588 := n1_; have BK574 := n2_; have BK581 := n3_; have HB := n4_; clear n0_ n1_ n2_ n3_ n4_; (try clear hb); (try clear hb2); (try clear hk); (try clear hi); (try clear ho0); obtain ⟨Ao29, co29, eo29⟩ := Kd.R_slice HO588.out; subst eo29) | ((with_reducible refine gate_callee (f := 38) rfl ?_); refine goesL_ (some 53) rfl rfl Tryd.func38 (by kernel_rfl) rfl #[.slice Ao29 t586.length co29] rfl (by (try simp only [List.map_toArray, List.map_cons, List.map_nil]); first | done | rfl | (simp only [List.length_drop, List.length_take]; rfl)) ?_; (with_reducible refine (spec_DrawIsValidLog.calls k _ _ t586 t589 t590 t591 _ ?side1 ?side2 A10.out).mono ?_); (case side1 => repeat (first | exact (Kd.R_reads' HO588.out).2.2 | (with_reducible refine Kd.C_alloc ?_ _) | (with_reducible refine Kd.C_drewN ?_ _) | (with_reducible refine Kd.C_drew ?_))); (case side2 => exact (Kd.R_reads' HO588.out).2.1); rintro e w30 ⟨rfl, hb⟩; refine ⟨_, rfl, ?_⟩; have n0_ := Aside0.mk (Kd.R_below (by (with_reducible repeat (first | apply Kd.R_alloc | apply Kd.R_drewN | apply Kd.R_drew)); exact HO577.out) hb); have n1_ := Aside0.mk (Kd.R_below (by (with_reducible repeat (first | apply Kd.R_alloc | apply Kd.R_drewN | apply Kd.R_drew)); exact HO588.out) hb); have n2_ := Aside0.mk (blk_below BK574.out hb); have n3_ := Aside0.mk (blk_below BK581.out hb); have n4_ := Aside0.mk (below_step (by repeat (first | (with_reducible first | exact HB.out | apply below_alloc | apply pw_below_drewN | apply below_drew1 | refine below_set ?_ GE574.out | refine below_set ?_ GE581.out) | exact HB.out)) hb); clear HO577; clear HO588; clear BK574; clear BK581; clear HB; have HO577 := n0_; have HO588 := n1_; have BK574 := n2_; have BK581 := n3_; have HB := n4_; clear n0_ n1_ n2_ n3_ n4_; (try clear hb); (try clear hb2); (try clear hk); (try clear hi)) | ((with_reducible refine gate_dst (N := 10) rfl ?_); (try (refine gate_guard (by rfl) ?_; dsimp only)); refine box_event ?hg (N := 10) ?hd (cs := #[.string (⟨#[]⟩ : ByteArray), .string (⟨#[]⟩ : ByteArray), .int .i64 0]) (t := 31) ?hr ?_; (case hd => rfl); (case hg => rfl); (case hr => first | (go_simp; done) | (go_simp; rfl)); intro gb592 hg w31 hbox hb; have n0_ := Aside0.mk (Kd.R_below (by (with_reducible repeat (first | apply Kd.R_alloc | apply Kd.R_drewN | apply Kd.R_drew)); exact HO577.out) hb); have n1_ := Aside0.mk (Kd.R_below (by (with_reducible repeat (first | apply Kd.R_alloc | apply Kd.R_drewN | apply Kd.R_drew)); exact HO588.out) hb); have n2_ := Aside0.mk (blk_below BK574.out hb); have n3_ := Aside0.mk (blk_below BK581.out hb); have n4_ := Aside0.mk (below_step (by repeat (first | (with_reducible first | exact HB.out | apply below_alloc | apply pw_below_drewN | apply below_drew1 | refine below_set ?_ GE574.out | refine below_set ?_ GE581.out) | exact HB.out)) hb); have n5_ := Aside0.mk (hbox); have n6_ := Aside0.mk ((by rw [hg]; exact (below_size (by repeat (first | (with_reducible first | exact HB.out | apply below_alloc | apply pw_below_drewN | apply below_drew1 | refine below_set ?_ GE574.out | refine below_set ?_ GE581.out) | exact HB.out))) : w.heap.size ≤ gb592)); have n7_ := Aside0.mk ((by rw [hg]; exact (below_size (by repeat (first | (with_reducible first | exact HB.out | apply below_alloc | apply pw_below_drewN | apply below_drew1 | refine below_set ?_ GE574.out | refine below_set ?_ GE581.out) | exact HB.out))) : w.heap.size ≤ gb592)); have n8_ := Aside0.mk ((by rw [hg]; exact Nat.ne_of_lt (blk_lt (g := gb574) (o := .cells #[.string t572, .string t573] 27 (0, 0)) (by (with_reducible repeat (first | refine blk_drewN ?_ _ | refine blk_drew ?_ | refine blk_alloc ?_ _)); exact BK574.out)) : gb574 ≠ gb592)); have n9_ := Aside0.mk ((by rw [hg]; exact Nat.ne_of_gt (blk_lt (g := gb574) (o := .cells #[.string t572, .string t573] 27 (0, 0)) (by (with_reducible repeat (first | refine blk_drewN ?_ _ | refine blk_drew ?_ | refine blk_alloc ?_ _)); exact BK574.out)) : gb592 ≠ gb574)); have n10_ := Aside0.mk ((by rw [hg]; exact Nat.ne_of_lt (blk_lt (g := gb581) (o := .cells #[.string t579, .string t580] 27 (0, 0)) (by (with_reducible repeat (first | refine blk_drewN ?_ _ | refine blk_drew ?_ | refine blk_alloc ?_ _)); exact BK581.out)) : gb581 ≠ gb592)); have n11_ := Aside0.mk ((by rw [hg]; exact Nat.ne_of_gt (blk_lt (g := gb581) (o := .cells #[.string t579, .string t580] 27 (0, 0)) (by (with_reducible repeat (first | refine blk_drewN ?_ _ | refine blk_drew ?_ | refine blk_alloc ?_ _)); exact BK581.out)) : gb592 ≠ gb581)); clear HO577; clear HO588; clear BK574; clear BK581; clear HB; have HO577 := n0_; have HO588 := n1_; have BK574 := n2_; have BK581 := n3_; have HB := n4_; have BK592 := n5_; have GW592 := n6_; have GE592 := n7_; have NB574_592 := n8_; have NB592_574 := n9_; have NB581_592 := n10_; have NB592_581 := n11_; clear n0_ n1_ n2_ n3_ n4_ n5_ n6_ n7_ n8_ n9_ n10_ n11_; clear hb hbox hg; have hnb32 := NB592_574.out; have hnc32 := NB574_592.out; have hnb33 := NB592_581.out; have hnc33 := NB581_592.out; have hcz34_0 : w31.cell? ⟨gb592, 0, none⟩ = some (.string (⟨#[]⟩ : ByteArray)) := (blk_cell BK592.out 0).trans rfl; have hcz34_1 : w31.cell? ⟨gb592, 1, none⟩ = some (.string (⟨#[]⟩ : ByteArray)) := (blk_cell BK592.out 1).trans rfl; have hcz34_2 : w31.cell? ⟨gb592, 2, none⟩ = some (.int .i64 0) := (blk_cell BK592.out 2).trans rfl; have hfz34_0 := blk_frozen BK592.out 0; have hfz34_1 := blk_frozen BK592.out 1; have hfz34_2 := blk_frozen BK592.out 2) | ((with_reducible refine gate_callee (f := 37) rfl ?_); refine goesL_ (some 56) rfl rfl Tryd.func37 (by kernel_rfl) rfl #[.slice A0 l0.length c0, .int .i64 3] rfl (by (try simp only [List.map_toArray, List.map_cons, List.map_nil]); first | done | rfl | (simp only [List.length_drop, List.length_take]; rfl)) ?_; (with_reducible refine (laws_vCut.calls k _ _ l0 3 t593 _ ?side1 ?side2 A11.out).mono ?_); (case side1 => exact Kd.C_below HR0.out (by repeat (first | (with_reducible first | exact HB.out | apply below_alloc | apply pw_below_drewN | apply below_drew1 | refine below_set ?_ GE574.out | refine below_set ?_ GE581.out | refine below_set ?_ GE592.out) | exact HB.out))); (case side2 => exact HC0.out); rintro e w35 ⟨v594, rfl, ho0, hb⟩; refine ⟨_, rfl, ?_⟩; have n0_ := Aside0.mk (Kd.R_elder' (by (with_reducible repeat (first | apply Kd.R_alloc | apply Kd.R_drewN | apply Kd.R_drew)); exact (Kd.R_mono (Kd.R_far (p := ⟨gb592, 2, none⟩) (Kd.R_far (p := ⟨gb592, 1, none⟩) (Kd.R_far (p := ⟨gb592, 0, none⟩) (Kd.R_types HO577.out BK592.out (by decide)) (fun _ hk => hk.2) (.string t589)) (fun _ hk => hk.2) (.string t590)) (fun _ hk => hk.2) (.int .i64 t591)) (fun _ h_ => h_.1))) (Kd.R_base ho0) hb); have n1_ := Aside0.mk (Kd.R_elder' (by (with_reducible repeat (first | apply Kd.R_alloc | apply Kd.R_drewN | apply Kd.R_drew)); exact (Kd.R_mono (Kd.R_far (p := ⟨gb592, 2, none⟩) (Kd.R_far (p := ⟨gb592, 1, none⟩) (Kd.R_far (p := ⟨gb592, 0, none⟩) (Kd.R_types HO588.out BK592.out (by decide)) (fun _ hk => hk.2) (.string t589)) (fun _ hk => hk.2) (.string t590)) (fun _ hk => hk.2) (.int .i64 t591)) (fun _ h_ => h_.1))) (Kd.R_base ho0) hb); have n2_ := Aside0.mk (Kd.R_lower (Kd.R_new' (Kd.R_new' ho0 (Kd.R_lt (by (with_reducible repeat (first | apply Kd.R_alloc | apply Kd.R_drewN | apply Kd.R_drew)); exact (Kd.R_mono (Kd.R_far (p := ⟨gb592, 2, none⟩) (Kd.R_far (p := ⟨gb592, 1, none⟩) (Kd.R_far (p := ⟨gb592, 0, none⟩) (Kd.R_types HO577.out BK592.out (by decide)) (fun _ hk => hk.2) (.string t589)) (fun _ hk => hk.2) (.string t590)) (fun _ hk => hk.2) (.int .i64 t591)) (fun _ h_ => h_.1))))) (Kd.R_lt (by (with_reducible repeat (first | apply Kd.R_alloc | apply Kd.R_drewN | apply Kd.R_drew)); exact (Kd.R_mono (Kd.R_far (p := ⟨gb592, 2, none⟩) (Kd.R_far (p := ⟨gb592, 1, none⟩) (Kd.R_far (p := ⟨gb592, 0, none⟩) (Kd.R_types HO588.out BK592.out (by decide)) (fun _ hk => hk.2) (.string t589)) (fun _ hk => hk.2) (.string t590)) (fun _ hk => hk.2) (.int .i64 t591)) (fun _ h_ => h_.1))))) (below_size (by repeat (first | (with_reducible first | exact HB.out | apply below_alloc | apply pw_below_drewN | apply below_drew1 | refine below_set ?_ GE574.out | refine below_set ?_ GE581.out | refine below_set ?_ GE592.out) | exact HB.out)))); have n3_ := Aside0.mk (blk_below (g := gb574) (o := .cells #[.string t572, .string t573] 27 (0, 0)) (by (with_reducible repeat (first | refine blk_drewN ?_ _ | refine blk_drew ?_ | refine blk_alloc ?_ _)); refine blk_far ?_ NB574_592.out _; (with_reducible repeat (first | refine blk_drewN ?_ _ | refine blk_drew ?_ | refine blk_alloc ?_ _)); refine blk_far ?_ NB574_592.out _; (with_reducible repeat (first | refine blk_drewN ?_ _ | refine blk_drew ?_ | refine blk_alloc ?_ _)); refine blk_far ?_ NB574_592.out _; (with_reducible repeat (first | refine blk_drewN ?_ _ | refine blk_drew ?_ | refine blk_alloc ?_ _)); exact BK574.out) hb); have n4_ := Aside0.mk (blk_below (g := gb581) (o := .cells #[.string t579, .string t580] 27 (0, 0)) (by (with_reducible repeat (first | refine blk_drewN ?_ _ | refine blk_drew ?_ | refine blk_alloc ?_ _)); refine blk_far ?_ NB581_592.out _; (with_reducible repeat (first | refine blk_drewN ?_ _ | refine blk_drew ?_ | refine blk_alloc ?_ _)); refine blk_far ?_ NB581_592.out _; (with_reducible repeat (first | refine blk_drewN ?_ _ | refine blk_drew ?_ | refine blk_alloc ?_ _)); refine blk_far ?_ NB581_592.out _; (with_reducible repeat (first | refine blk_drewN ?_ _ | refine blk_drew ?_ | refine blk_alloc ?_ _)); exact BK581.out) hb); have n5_ := Aside0.mk (blk_below (g := gb592) (o := .cells #[.string t589, .string t590, .int .i64 t591] 31 (0, 0)) (by (with_reducible repeat (first | refine blk_drewN ?_ _ | refine blk_drew ?_ | refine blk_alloc ?_ _)); refine blk_put (cs := #[.string t589, .string t590, .int .i64 0]) ?_ 2 _ rfl; (with_reducible repeat (first | refine blk_drewN ?_ _ | refine blk_drew ?_ | refine blk_alloc ?_ _)); refine blk_put (cs := #[.string t589, .string (⟨#[]⟩ : ByteArray), .int .i64 0]) ?_ 1 _ rfl; (with_reducible repeat (first | refine blk_drewN ?_ _ | refine blk_drew ?_ | refine blk_alloc ?_ _)); refine blk_put (cs := #[.string (⟨#[]⟩ : ByteArray), .string (⟨#[]⟩ : ByteArray), .int .i64 0]) ?_ 0 _ rfl; (with_reducible repeat (first | refine blk_drewN ?_ _ | refine blk_drew ?_ | refine blk_alloc ?_ _)); exact BK592.out) hb); have n6_ := Aside0.mk (below_step (by repeat (first | (with_reducible first | exact HB.out | apply below_alloc | apply pw_below_drewN | apply below_drew1 | refine below_set ?_ GE574.out | refine below_set ?_ GE581.out | refine below_set ?_ GE592.out) | exact HB.out)) hb); clear HO577; clear HO588; clear BK574; clear BK581; clear BK592; clear HB; have HO577 := n0_; have HO588 := n1_; have HO595 := n2_; have BK574 := n3_; have BK581 := n4_; have BK592 := n5_; have HB := n6_; clear n0_ n1_ n2_ n3_ n4_ n5_ n6_; (try clear hb); (try clear hb2); (try clear hk); (try clear hi); (try clear ho0); obtain ⟨Ao36, co36, eo36⟩ := Kd.R_slice HO595.out; subst eo36) | ((with_reducible refine gate_callee (f := 39) rfl ?_); refine goesL_ (some 57) rfl rfl Tryd.func39 (by kernel_rfl) rfl #[.slice Ao36 t593.length co36] rfl (by (try simp only [List.map_toArray, List.map_cons, List.map_nil]); first | done | rfl | (simp only [List.length_drop, List.length_take]; rfl)) ?_; (with_reducible refine (spec_DrawAppendRecord.calls k _ _ t593 t596 t597 t598 t599 t600 _ ?side1 ?side2 A12.out).mono ?_); (case side1 => repeat (first | exact (Kd.R_reads' HO595.out).2.2 | (with_reducible refine Kd.C_alloc ?_ _) | (with_reducible refine Kd.C_drewN ?_ _) | (with_reducible refine Kd.C_drew ?_))); (case side2 => exact (Kd.R_reads' HO595.out).2.1); rintro e w37 ⟨rfl, hb⟩; refine ⟨_, rfl, ?_⟩; have n0_ := Aside0.mk (Kd.R_below (by (with_reducible repeat (first | apply Kd.R_alloc | apply Kd.R_drewN | apply Kd.R_drew)); exact HO577.out) hb); have n1_ := Aside0.mk (Kd.R_below (by (with_reducible repeat (first | apply Kd.R_alloc | apply Kd.R_drewN | apply Kd.R_drew)); exact HO588.out) hb); have n2_ := Aside0.mk (Kd.R_below (by (with_reducible repeat (first | apply Kd.R_alloc | apply Kd.R_drewN | apply Kd.R_drew)); exact HO595.out) hb); have n3_ := Aside0.mk (blk_below BK574.out hb); have n4_ := Aside0.mk (blk_below BK581.out hb); have n5_ := Aside0.mk (blk_below BK592.out hb); have n6_ := Aside0.mk (below_step (by repeat (first | (with_reducible first | exact HB.out | apply below_alloc | apply pw_below_drewN | apply below_drew1 | refine below_set ?_ GE574.out | refine below_set ?_ GE581.out | refine below_set ?_ GE592.out) | exact HB.out)) hb); clear HO577; clear HO588; clear HO595; clear BK574; clear BK581; clear BK592; clear HB; have HO577 := n0_; have HO588 := n1_; have HO595 := n2_; have BK574 := n3_; have BK581 := n4_; have BK592 := n5_; have HB := n6_; clear n0_ n1_ n2_ n3_ n4_ n5_ n6_; (try clear hb); (try clear hb2); (try clear hk); (try clear hi)) | ((with_reducible refine gate_dst (N := 11) rfl ?_); (try (refine gate_guard (by rfl) ?_; dsimp only)); refine box_event ?hg (N := 11) ?hd (cs := #[.string (⟨#[]⟩ : ByteArray), .string (⟨#[]⟩ : ByteArray), .int .i64 0]) (t := 31) ?hr ?_; (case hd => rfl); (case hg => rfl); (case hr => first | (go_simp; done) | (go_simp; rfl)); intro gb601 hg w38 hbox hb; have n0_ := Aside0.mk (Kd.R_below (by (with_reducible repeat (first | apply Kd.R_alloc | apply Kd.R_drewN | apply Kd.R_drew)); exact HO577.out) hb); have n1_ := Aside0.mk (Kd.R_below (by (with_reducible repeat (first | apply Kd.R_alloc | apply Kd.R_drewN | apply Kd.R_drew)); exact HO588.out) hb); have n2_ := Aside0.mk (Kd.R_below (by (with_reducible repeat (first | apply Kd.R_alloc | apply Kd.R_drewN | apply Kd.R_drew)); exact HO595.out) hb); have n3_ := Aside0.mk (blk_below BK574.out hb); have n4_ := Aside0.mk (blk_below BK581.out hb); have n5_ := Aside0.mk (blk_below BK592.out hb); have n6_ := Aside0.mk (below_step (by repeat (first | (with_reducible first | exact HB.out | apply below_alloc | apply pw_below_drewN | apply below_drew1 | refine below_set ?_ GE574.out | refine below_set ?_ GE581.out | refine below_set ?_ GE592.out) | exact HB.out)) hb); have n7_ := Aside0.mk (hbox); have n8_ := Aside0.mk ((by rw [hg]; exact (below_size (by repeat (first | (with_reducible first | exact HB.out | apply below_alloc | apply pw_below_drewN | apply below_drew1 | refine below_set ?_ GE574.out | refine below_set ?_ GE581.out | refine below_set ?_ GE592.out) | exact HB.out))) : w.heap.size ≤ gb601)); have n9_ := Aside0.mk ((by rw [hg]; exact (below_size (by repeat (first | (with_reducible first | exact HB.out | apply below_alloc | apply pw_below_drewN | apply below_drew1 | refine below_set ?_ GE574.out | refine below_set ?_ GE581.out | refine below_set ?_ GE592.out) | exact HB.out))) : w.heap.size ≤ gb601)); have n10_ := Aside0.mk ((by rw [hg]; exact Nat.ne_of_lt (blk_lt (g := gb574) (o := .cells #[.string t572, .string t573] 27 (0, 0)) (by (with_reducible repeat (first | refine blk_drewN ?_ _ | refine blk_drew ?_ | refine blk_alloc ?_ _)); exact BK574.out)) : gb574 ≠ gb601)); have n11_ := Aside0.mk ((by rw [hg]; exact Nat.ne_of_gt (blk_lt (g := gb574) (o := .cells #[.string t572, .string t573] 27 (0, 0)) (by (with_reducible repeat (first | refine blk_drewN ?_ _ | refine blk_drew ?_ | refine blk_alloc ?_ _)); exact BK574.out)) : gb601 ≠ gb574)); have n12_ := Aside0.mk ((by rw [hg]; exact Nat.ne_of_lt (blk_lt (g := gb581) (o := .cells #[.string t579, .string t580] 27 (0, 0)) (by (with_reducible repeat (first | refine blk_drewN ?_ _ | refine blk_drew ?_ | refine blk_alloc ?_ _)); exact BK581.out)) : gb581 ≠ gb601)); have n13_ := Aside0.mk ((by rw [hg]; exact Nat.ne_of_gt (blk_lt (g := gb581) (o := .cells #[.string t579, .string t580] 27 (0, 0)) (by (with_reducible repeat (first | refine blk_drewN ?_ _ | refine blk_drew ?_ | refine blk_alloc ?_ _)); exact BK581.out)) : gb601 ≠ gb581)); have n14_ := Aside0.mk ((by rw [hg]; exact Nat.ne_of_lt (blk_lt (g := gb592) (o := .cells #[.string t589, .string t590, .int .i64 t591] 31 (0, 0)) (by (with_reducible repeat (first | refine blk_drewN ?_ _ | refine blk_drew ?_ | refine blk_alloc ?_ _)); exact BK592.out)) : gb592 ≠ gb601)); have n15_ := Aside0.mk ((by rw [hg]; exact Nat.ne_of_gt (blk_lt (g := gb592) (o := .cells #[.string t589, .string t590, .int .i64 t591] 31 (0, 0)) (by (with_reducible repeat (first | refine blk_drewN ?_ _ | refine blk_drew ?_ | refine blk_alloc ?_ _)); exact BK592.out)) : gb601 ≠ gb592)); clear HO577; clear HO588; clear HO595; clear BK574; clear BK581; clear BK592; clear HB; have HO577 := n0_; have HO588 := n1_; have HO595 := n2_; have BK574 := n3_; have BK581 := n4_; have BK592 := n5_; have HB := n6_; have BK601 := n7_; have GW601 := n8_; have GE601 := n9_; have NB574_601 := n10_; have NB601_574 := n11_; have NB581_601 := n12_; have NB601_581 := n13_; have NB592_601 := n14_; have NB601_592 := n15_; clear n0_ n1_ n2_ n3_ n4_ n5_ n6_ n7_ n8_ n9_ n10_ n11_ n12_ n13_ n14_ n15_; clear hb hbox hg) | ((with_reducible refine gate_dst (N := 12) rfl ?_); (try (refine gate_guard (by rfl) ?_; dsimp only)); refine box_event ?hg (N := 12) ?hd (cs := #[.string (⟨#[]⟩ : ByteArray), .string (⟨#[]⟩ : ByteArray)]) (t := 27) ?hr ?_; (case hd => rfl); (case hg => rfl); (case hr => first | (go_simp; done) | (go_simp; rfl)); intro gb602 hg w39 hbox hb; have n0_ := Aside0.mk (Kd.R_below (by (with_reducible repeat (first | apply Kd.R_alloc | apply Kd.R_drewN | apply Kd.R_drew)); exact HO577.out) hb); have n1_ := Aside0.mk (Kd.R_below (by (with_reducible repeat (first | apply Kd.R_alloc | apply Kd.R_drewN | apply Kd.R_drew)); exact HO588.out) hb); have n2_ := Aside0.mk (Kd.R_below (by (with_reducible repeat (first | apply Kd.R_alloc | apply Kd.R_drewN | apply Kd.R_drew)); exact HO595.out) hb); have n3_ := Aside0.mk (blk_below BK574.out hb); have n4_ := Aside0.mk (blk_below BK581.out hb); have n5_ := Aside0.mk (blk_below BK592.out hb); have n6_ := Aside0.mk (blk_below BK601.out hb); have n7_ := Aside0.mk (below_step (by repeat (first | (with_reducible first | exact HB.out | apply below_alloc | apply pw_below_drewN | apply below_drew1 | refine below_set ?_ GE574.out | refine below_set ?_ GE581.out | refine below_set ?_ GE592.out | refine below_set ?_ GE601.out) | exact HB.out)) hb); have n8_ := Aside0.mk (hbox); have n9_ := Aside0.mk ((by rw [hg]; exact (below_size (by repeat (first | (with_reducible first | exact HB.out | apply below_alloc | apply pw_below_drewN | apply below_drew1 | refine below_set ?_ GE574.out | refine below_set ?_ GE581.out | refine below_set ?_ GE592.out | refine below_set ?_ GE601.out) | exact HB.out))) : w.heap.size ≤ gb602)); have n10_ := Aside0.mk ((by rw [hg]; exact (below_size (by repeat (first | (with_reducible first | exact HB.out | apply below_alloc | apply pw_below_drewN | apply below_drew1 | refine below_set ?_ GE574.out | refine below_set ?_ GE581.out | refine below_set ?_ GE592.out | refine below_set ?_ GE601.out) | exact HB.out))) : w.heap.size ≤ gb602)); have n11_ := Aside0.mk ((by rw [hg]; exact Nat.ne_of_lt (blk_lt (g := gb574) (o := .cells #[.string t572, .string t573] 27 (0, 0)) (by (with_reducible repeat (first | refine blk_drewN ?_ _ | refine blk_drew ?_ | refine blk_alloc ?_ _)); exact BK574.out)) : gb574 ≠ gb602)); have n12_ := Aside0.mk ((by rw [hg]; exact Nat.ne_of_gt (blk_lt (g := gb574) (o := .cells #[.string t572, .string t573] 27 (0, 0)) (by (with_reducible repeat (first | refine blk_drewN ?_ _ | refine blk_drew ?_ | refine blk_alloc ?_ _)); exact BK574.out)) : gb602 ≠ gb574)); have n13_ := Aside0.mk ((by rw [hg]; exact Nat.ne_of_lt (blk_lt (g := gb581) (o := .cells #[.string t579, .string t580] 27 (0, 0)) (by (with_reducible repeat (first | refine blk_drewN ?_ _ | refine blk_drew ?_ | refine blk_alloc ?_ _)); exact BK581.out)) : gb581 ≠ gb602)); have n14_ := Aside0.mk ((by rw [hg]; exact Nat.ne_of_gt (blk_lt (g := gb581) (o := .cells #[.string t579, .string t580] 27 (0, 0)) (by (with_reducible repeat (first | refine blk_drewN ?_ _ | refine blk_drew ?_ | refine blk_alloc ?_ _)); exact BK581.out)) : gb602 ≠ gb581)); have n15_ := Aside0.mk ((by rw [hg]; exact Nat.ne_of_lt (blk_lt (g := gb592) (o := .cells #[.string t589, .string t590, .int .i64 t591] 31 (0, 0)) (by (with_reducible repeat (first | refine blk_drewN ?_ _ | refine blk_drew ?_ | refine blk_alloc ?_ _)); exact BK592.out)) : gb592 ≠ gb602)); have n16_ := Aside0.mk ((by rw [hg]; exact Nat.ne_of_gt (blk_lt (g := gb592) (o := .cells #[.string t589, .string t590, .int .i64 t591] 31 (0, 0)) (by (with_reducible repeat (first | refine blk_drewN ?_ _ | refine blk_drew ?_ | refine blk_alloc ?_ _)); exact BK592.out)) : gb602 ≠ gb592)); have n17_ := Aside0.mk ((by rw [hg]; exact Nat.ne_of_lt (blk_lt (g := gb601) (o := .cells #[.string (⟨#[]⟩ : ByteArray), .string (⟨#[]⟩ : ByteArray), .int .i64 0] 31 (0, 0)) (by (with_reducible repeat (first | refine blk_drewN ?_ _ | refine blk_drew ?_ | refine blk_alloc ?_ _)); exact BK601.out)) : gb601 ≠ gb602)); have n18_ := Aside0.mk ((by rw [hg]; exact Nat.ne_of_gt (blk_lt (g := gb601) (o := .cells #[.string (⟨#[]⟩ : ByteArray), .string (⟨#[]⟩ : ByteArray), .int .i64 0] 31 (0, 0)) (by (with_reducible repeat (first | refine blk_drewN ?_ _ | refine blk_drew ?_ | refine blk_alloc ?_ _)); exact BK601.out)) : gb602 ≠ gb601)); clear HO577; clear HO588; clear HO595; clear BK574; clear BK581; clear BK592; clear BK601; clear HB; have HO577 := n0_; have HO588 := n1_; have HO595 := n2_; have BK574 := n3_; have BK581 := n4_; have BK592 := n5_; have BK601 := n6_; have HB := n7_; have BK602 := n8_; have GW602 := n9_; have GE602 := n10_; have NB574_602 := n11_; have NB602_574 := n12_; have NB581_602 := n13_; have NB602_581 := n14_; have NB592_602 := n15_; have NB602_592 := n16_; have NB601_602 := n17_; have NB602_601 := n18_; clear n0_ n1_ n2_ n3_ n4_ n5_ n6_ n7_ n8_ n9_ n10_ n11_ n12_ n13_ n14_ n15_ n16_ n17_ n18_; clear hb hbox hg; have hnb40 := NB601_574.out; have hnc40 := NB574_601.out; have hnb41 := NB601_581.out; have hnc41 := NB581_601.out; have hnb42 := NB601_592.out; have hnc42 := NB592_601.out; have hnb43 := NB601_602.out; have hnc43 := NB602_601.out; have hcz44_0 : w39.cell? ⟨gb601, 0, none⟩ = some (.string (⟨#[]⟩ : ByteArray)) := (blk_cell BK601.out 0).trans rfl; have hcz44_1 : w39.cell? ⟨gb601, 1, none⟩ = some (.string (⟨#[]⟩ : ByteArray)) := (blk_cell BK601.out 1).trans rfl; have hcz44_2 : w39.cell? ⟨gb601, 2, none⟩ = some (.int .i64 0) := (blk_cell BK601.out 2).trans rfl; have hfz44_0 := blk_frozen BK601.out 0; have hfz44_1 := blk_frozen BK601.out 1; have hfz44_2 := blk_frozen BK601.out 2; have hnb45 := NB602_574.out; have hnc45 := NB574_602.out; have hnb46 := NB602_581.out; have hnc46 := NB581_602.out; have hnb47 := NB602_592.out; have hnc47 := NB592_602.out; have hcz48_0 : w39.cell? ⟨gb602, 0, none⟩ = some (.string (⟨#[]⟩ : ByteArray)) := (blk_cell BK602.out 0).trans rfl; have hcz48_1 : w39.cell? ⟨gb602, 1, none⟩ = some (.string (⟨#[]⟩ : ByteArray)) := (blk_cell BK602.out 1).trans rfl; have hfz48_0 := blk_frozen BK602.out 0; have hfz48_1 := blk_frozen BK602.out 1) | ((with_reducible refine gate_callee (f := 28) rfl ?_); refine goesL_ (some 63) rfl rfl Tryd.func28 (by kernel_rfl) rfl #[.agg #[.string t596, .string t597, .int .i64 t598], .agg #[.string t599, .string t600]] rfl (by (try simp only [List.map_toArray, List.map_cons, List.map_nil]); first | done | rfl | (simp only [List.length_drop, List.length_take]; rfl)) ?_; (with_reducible refine (impl_AppendRecord.calls k t596 t597 t598 t599 t600 t603 t604 t605 t606 _ ?side1 A13.out).mono ?_); (case side1 => exact GT.below hG_.out (by repeat (first | (with_reducible first | exact HB.out | apply below_alloc | apply pw_below_drewN | apply below_drew1 | refine below_set ?_ GE574.out | refine below_set ?_ GE581.out | refine below_set ?_ GE592.out | refine below_set ?_ GE601.out | refine below_set ?_ GE602.out) | exact HB.out)) (Nat.le_refl _)); rintro e w49 ⟨rfl, hb⟩; refine ⟨_, rfl, ?_⟩; have n0_ := Aside0.mk (Kd.R_below (by (with_reducible repeat (first | apply Kd.R_alloc | apply Kd.R_drewN | apply Kd.R_drew)); exact (Kd.R_mono (Kd.R_mono (Kd.R_far (p := ⟨gb602, 1, none⟩) (Kd.R_far (p := ⟨gb602, 0, none⟩) (Kd.R_far (p := ⟨gb601, 2, none⟩) (Kd.R_far (p := ⟨gb601, 1, none⟩) (Kd.R_far (p := ⟨gb601, 0, none⟩) (Kd.R_types (Kd.R_types HO577.out BK601.out (by decide)) BK602.out (by decide)) (fun _ hk => hk.1.2) (.string t596)) (fun _ hk => hk.1.2) (.string t597)) (fun _ hk => hk.1.2) (.int .i64 t598)) (fun _ hk => hk.2) (.string t599)) (fun _ hk => hk.2) (.string t600)) (fun _ h_ => h_.1)) (fun _ h_ => h_.1))) hb); have n1_ := Aside0.mk (Kd.R_below (by (with_reducible repeat (first | apply Kd.R_alloc | apply Kd.R_drewN | apply Kd.R_drew)); exact (Kd.R_mono (Kd.R_mono (Kd.R_far (p := ⟨gb602, 1, none⟩) (Kd.R_far (p := ⟨gb602, 0, none⟩) (Kd.R_far (p := ⟨gb601, 2, none⟩) (Kd.R_far (p := ⟨gb601, 1, none⟩) (Kd.R_far (p := ⟨gb601, 0, none⟩) (Kd.R_types (Kd.R_types HO588.out BK601.out (by decide)) BK602.out (by decide)) (fun _ hk => hk.1.2) (.string t596)) (fun _ hk => hk.1.2) (.string t597)) (fun _ hk => hk.1.2) (.int .i64 t598)) (fun _ hk => hk.2) (.string t599)) (fun _ hk => hk.2) (.string t600)) (fun _ h_ => h_.1)) (fun _ h_ => h_.1))) hb); have n2_ := Aside0.mk (Kd.R_below (by (with_reducible repeat (first | apply Kd.R_alloc | apply Kd.R_drewN | apply Kd.R_drew)); exact (Kd.R_mono (Kd.R_mono (Kd.R_far (p := ⟨gb602, 1, none⟩) (Kd.R_far (p := ⟨gb602, 0, none⟩) (Kd.R_far (p := ⟨gb601, 2, none⟩) (Kd.R_far (p := ⟨gb601, 1, none⟩) (Kd.R_far (p := ⟨gb601, 0, none⟩) (Kd.R_types (Kd.R_types HO595.out BK601.out (by decide)) BK602.out (by decide)) (fun _ hk => hk.1.2) (.string t596)) (fun _ hk => hk.1.2) (.string t597)) (fun _ hk => hk.1.2) (.int .i64 t598)) (fun _ hk => hk.2) (.string t599)) (fun _ hk => hk.2) (.string t600)) (fun _ h_ => h_.1)) (fun _ h_ => h_.1))) hb); have n3_ := Aside0.mk (blk_below (g := gb574) (o := .cells #[.string t572, .string t573] 27 (0, 0)) (by (with_reducible repeat (first | refine blk_drewN ?_ _ | refine blk_drew ?_ | refine blk_alloc ?_ _)); refine blk_far ?_ NB574_602.out _; (with_reducible repeat (first | refine blk_drewN ?_ _ | refine blk_drew ?_ | refine blk_alloc ?_ _)); refine blk_far ?_ NB574_602.out _; (with_reducible repeat (first | refine blk_drewN ?_ _ | refine blk_drew ?_ | refine blk_alloc ?_ _)); refine blk_far ?_ NB574_601.out _; (with_reducible repeat (first | refine blk_drewN ?_ _ | refine blk_drew ?_ | refine blk_alloc ?_ _)); refine blk_far ?_ NB574_601.out _; (with_reducible repeat (first | refine blk_drewN ?_ _ | refine blk_drew ?_ | refine blk_alloc ?_ _)); refine blk_far ?_ NB574_601.out _; (with_reducible repeat (first | refine blk_drewN ?_ _ | refine blk_drew ?_ | refine blk_alloc ?_ _)); exact BK574.out) hb); have n4_ := Aside0.mk (blk_below (g := gb581) (o := .cells #[.string t579, .string t580] 27 (0, 0)) (by (with_reducible repeat (first | refine blk_drewN ?_ _ | refine blk_drew ?_ | refine blk_alloc ?_ _)); refine blk_far ?_ NB581_602.out _; (with_reducible repeat (first | refine blk_drewN ?_ _ | refine blk_drew ?_ | refine blk_alloc ?_ _)); refine blk_far ?_ NB581_602.out _; (with_reducible repeat (first | refine blk_drewN ?_ _ | refine blk_drew ?_ | refine blk_alloc ?_ _)); refine blk_far ?_ NB581_601.out _; (with_reducible repeat (first | refine blk_drewN ?_ _ | refine blk_drew ?_ | refine blk_alloc ?_ _)); refine blk_far ?_ NB581_601.out _; (with_reducible repeat (first | refine blk_drewN ?_ _ | refine blk_drew ?_ | refine blk_alloc ?_ _)); refine blk_far ?_ NB581_601.out _; (with_reducible repeat (first | refine blk_drewN ?_ _ | refine blk_drew ?_ | refine blk_alloc ?_ _)); exact BK581.out) hb); have n5_ := Aside0.mk (blk_below (g := gb592) (o := .cells #[.string t589, .string t590, .int .i64 t591] 31 (0, 0)) (by (with_reducible repeat (first | refine blk_drewN ?_ _ | refine blk_drew ?_ | refine blk_alloc ?_ _)); refine blk_far ?_ NB592_602.out _; (with_reducible repeat (first | refine blk_drewN ?_ _ | refine blk_drew ?_ | refine blk_alloc ?_ _)); refine blk_far ?_ NB592_602.out _; (with_reducible repeat (first | refine blk_drewN ?_ _ | refine blk_drew ?_ | refine blk_alloc ?_ _)); refine blk_far ?_ NB592_601.out _; (with_reducible repeat (first | refine blk_drewN ?_ _ | refine blk_drew ?_ | refine blk_alloc ?_ _)); refine blk_far ?_ NB592_601.out _; (with_reducible repeat (first | refine blk_drewN ?_ _ | refine blk_drew ?_ | refine blk_alloc ?_ _)); refine blk_far ?_ NB592_601.out _; (with_reducible repeat (first | refine blk_drewN ?_ _ | refine blk_drew ?_ | refine blk_alloc ?_ _)); exact BK592.out) hb); have n6_ := Aside0.mk (blk_below (g := gb601) (o := .cells #[.string t596, .string t597, .int .i64 t598] 31 (0, 0)) (by (with_reducible repeat (first | refine blk_drewN ?_ _ | refine blk_drew ?_ | refine blk_alloc ?_ _)); refine blk_far ?_ NB601_602.out _; (with_reducible repeat (first | refine blk_drewN ?_ _ | refine blk_drew ?_ | refine blk_alloc ?_ _)); refine blk_far ?_ NB601_602.out _; (with_reducible repeat (first | refine blk_drewN ?_ _ | refine blk_drew ?_ | refine blk_alloc ?_ _)); refine blk_put (cs := #[.string t596, .string t597, .int .i64 0]) ?_ 2 _ rfl; (with_reducible repeat (first | refine blk_drewN ?_ _ | refine blk_drew ?_ | refine blk_alloc ?_ _)); refine blk_put (cs := #[.string t596, .string (⟨#[]⟩ : ByteArray), .int .i64 0]) ?_ 1 _ rfl; (with_reducible repeat (first | refine blk_drewN ?_ _ | refine blk_drew ?_ | refine blk_alloc ?_ _)); refine blk_put (cs := #[.string (⟨#[]⟩ : ByteArray), .string (⟨#[]⟩ : ByteArray), .int .i64 0]) ?_ 0 _ rfl; (with_reducible repeat (first | refine blk_drewN ?_ _ | refine blk_drew ?_ | refine blk_alloc ?_ _)); exact BK601.out) hb); have n7_ := Aside0.mk (blk_below (g := gb602) (o := .cells #[.string t599, .string t600] 27 (0, 0)) (by (with_reducible repeat (first | refine blk_drewN ?_ _ | refine blk_drew ?_ | refine blk_alloc ?_ _)); refine blk_put (cs := #[.string t599, .string (⟨#[]⟩ : ByteArray)]) ?_ 1 _ rfl; (with_reducible repeat (first | refine blk_drewN ?_ _ | refine blk_drew ?_ | refine blk_alloc ?_ _)); refine blk_put (cs := #[.string (⟨#[]⟩ : ByteArray), .string (⟨#[]⟩ : ByteArray)]) ?_ 0 _ rfl; (with_reducible repeat (first | refine blk_drewN ?_ _ | refine blk_drew ?_ | refine blk_alloc ?_ _)); refine blk_far ?_ NB602_601.out _; (with_reducible repeat (first | refine blk_drewN ?_ _ | refine blk_drew ?_ | refine blk_alloc ?_ _)); refine blk_far ?_ NB602_601.out _; (with_reducible repeat (first | refine blk_drewN ?_ _ | refine blk_drew ?_ | refine blk_alloc ?_ _)); refine blk_far ?_ NB602_601.out _; (with_reducible repeat (first | refine blk_drewN ?_ _ | refine blk_drew ?_ | refine blk_alloc ?_ _)); exact BK602.out) hb); have n8_ := Aside0.mk (below_step (by repeat (first | (with_reducible first | exact HB.out | apply below_alloc | apply pw_below_drewN | apply below_drew1 | refine below_set ?_ GE574.out | refine below_set ?_ GE581.out | refine below_set ?_ GE592.out | refine below_set ?_ GE601.out | refine below_set ?_ GE602.out) | exact HB.out)) hb); clear HO577; clear HO588; clear HO595; clear BK574; clear BK581; clear BK592; clear BK601; clear BK602; clear HB; have HO577 := n0_; have HO588 := n1_; have HO595 := n2_; have BK574 := n3_; have BK581 := n4_; have BK592 := n5_; have BK601 := n6_; have BK602 := n7_; have HB := n8_; clear n0_ n1_ n2_ n3_ n4_ n5_ n6_ n7_ n8_; (try clear hb); (try clear hb2); (try clear hk); (try clear hi)) | ((with_reducible refine gate_dst (N := 13) rfl ?_); (try (refine gate_guard (by rfl) ?_; dsimp only)); refine box_event ?hg (N := 13) ?hd (cs := #[.string (⟨#[]⟩ : ByteArray), .string (⟨#[]⟩ : ByteArray), .int .i64 0]) (t := 31) ?hr ?_; (case hd => rfl); (case hg => rfl); (case hr => first | (go_simp; done) | (go_simp; rfl)); intro gb607 hg w50 hbox hb; have n0_ := Aside0.mk (Kd.R_below (by (with_reducible repeat (first | apply Kd.R_alloc | apply Kd.R_drewN | apply Kd.R_drew)); exact HO577.out) hb); have n1_ := Aside0.mk (Kd.R_below (by (with_reducible repeat (first | apply Kd.R_alloc | apply Kd.R_drewN | apply Kd.R_drew)); exact HO588.out) hb); have n2_ := Aside0.mk (Kd.R_below (by (with_reducible repeat (first | apply Kd.R_alloc | apply Kd.R_drewN | apply Kd.R_drew)); exact HO595.out) hb); have n3_ := Aside0.mk (blk_below BK574.out hb); have n4_ := Aside0.mk (blk_below BK581.out hb); have n5_ := Aside0.mk (blk_below BK592.out hb); have n6_ := Aside0.mk (blk_below BK601.out hb); have n7_ := Aside0.mk (blk_below BK602.out hb); have n8_ := Aside0.mk (below_step (by repeat (first | (with_reducible first | exact HB.out | apply below_alloc | apply pw_below_drewN | apply below_drew1 | refine below_set ?_ GE574.out | refine below_set ?_ GE581.out | refine below_set ?_ GE592.out | refine below_set ?_ GE601.out | refine below_set ?_ GE602.out) | exact HB.out)) hb); have n9_ := Aside0.mk (hbox); have n10_ := Aside0.mk ((by rw [hg]; exact (below_size (by repeat (first | (with_reducible first | exact HB.out | apply below_alloc | apply pw_below_drewN | apply below_drew1 | refine below_set ?_ GE574.out | refine below_set ?_ GE581.out | refine below_set ?_ GE592.out | refine below_set ?_ GE601.out | refine below_set ?_ GE602.out) | exact HB.out))) : w.heap.size ≤ gb607)); have n11_ := Aside0.mk ((by rw [hg]; exact (below_size (by repeat (first | (with_reducible first | exact HB.out | apply below_alloc | apply pw_below_drewN | apply below_drew1 | refine below_set ?_ GE574.out | refine below_set ?_ GE581.out | refine below_set ?_ GE592.out | refine below_set ?_ GE601.out | refine below_set ?_ GE602.out) | exact HB.out))) : w.heap.size ≤ gb607)); have n12_ := Aside0.mk ((by rw [hg]; exact Nat.ne_of_lt (blk_lt (g := gb574) (o := .cells #[.string t572, .string t573] 27 (0, 0)) (by (with_reducible repeat (first | refine blk_drewN ?_ _ | refine blk_drew ?_ | refine blk_alloc ?_ _)); exact BK574.out)) : gb574 ≠ gb607)); have n13_ := Aside0.mk ((by rw [hg]; exact Nat.ne_of_gt (blk_lt (g := gb574) (o := .cells #[.string t572, .string t573] 27 (0, 0)) (by (with_reducible repeat (first | refine blk_drewN ?_ _ | refine blk_drew ?_ | refine blk_alloc ?_ _)); exact BK574.out)) : gb607 ≠ gb574)); have n14_ := Aside0.mk ((by rw [hg]; exact Nat.ne_of_lt (blk_lt (g := gb581) (o := .cells #[.string t579, .string t580] 27 (0, 0)) (by (with_reducible repeat (first | refine blk_drewN ?_ _ | refine blk_drew ?_ | refine blk_alloc ?_ _)); exact BK581.out)) : gb581 ≠ gb607)); have n15_ := Aside0.mk ((by rw [hg]; exact Nat.ne_of_gt (blk_lt (g := gb581) (o := .cells #[.string t579, .string t580] 27 (0, 0)) (by (with_reducible repeat (first | refine blk_drewN ?_ _ | refine blk_drew ?_ | refine blk_alloc ?_ _)); exact BK581.out)) : gb607 ≠ gb581)); have n16_ := Aside0.mk ((by rw [hg]; exact Nat.ne_of_lt (blk_lt (g := gb592) (o := .cells #[.string t589, .string t590, .int .i64 t591] 31 (0, 0)) (by (with_reducible repeat (first | refine blk_drewN ?_ _ | refine blk_drew ?_ | refine blk_alloc ?_ _)); exact BK592.out)) : gb592 ≠ gb607)); have n17_ := Aside0.mk ((by rw [hg]; exact Nat.ne_of_gt (blk_lt (g := gb592) (o := .cells #[.string t589, .string t590, .int .i64 t591] 31 (0, 0)) (by (with_reducible repeat (first | refine blk_drewN ?_ _ | refine blk_drew ?_ | refine blk_alloc ?_ _)); exact BK592.out)) : gb607 ≠ gb592)); have n18_ := Aside0.mk ((by rw [hg]; exact Nat.ne_of_lt (blk_lt (g := gb601) (o := .cells #[.string t596, .string t597, .int .i64 t598] 31 (0, 0)) (by (with_reducible repeat (first | refine blk_drewN ?_ _ | refine blk_drew ?_ | refine blk_alloc ?_ _)); exact BK601.out)) : gb601 ≠ gb607)); have n19_ := Aside0.mk ((by rw [hg]; exact Nat.ne_of_gt (blk_lt (g := gb601) (o := .cells #[.string t596, .string t597, .int .i64 t598] 31 (0, 0)) (by (with_reducible repeat (first | refine blk_drewN ?_ _ | refine blk_drew ?_ | refine blk_alloc ?_ _)); exact BK601.out)) : gb607 ≠ gb601)); have n20_ := Aside0.mk ((by rw [hg]; exact Nat.ne_of_lt (blk_lt (g := gb602) (o := .cells #[.string t599, .string t600] 27 (0, 0)) (by (with_reducible repeat (first | refine blk_drewN ?_ _ | refine blk_drew ?_ | refine blk_alloc ?_ _)); exact BK602.out)) : gb602 ≠ gb607)); have n21_ := Aside0.mk ((by rw [hg]; exact Nat.ne_of_gt (blk_lt (g := gb602) (o := .cells #[.string t599, .string t600] 27 (0, 0)) (by (with_reducible repeat (first | refine blk_drewN ?_ _ | refine blk_drew ?_ | refine blk_alloc ?_ _)); exact BK602.out)) : gb607 ≠ gb602)); clear HO577; clear HO588; clear HO595; clear BK574; clear BK581; clear BK592; clear BK601; clear BK602; clear HB; have HO577 := n0_; have HO588 := n1_; have HO595 := n2_; have BK574 := n3_; have BK581 := n4_; have BK592 := n5_; have BK601 := n6_; have BK602 := n7_; have HB := n8_; have BK607 := n9_; have GW607 := n10_; have GE607 := n11_; have NB574_607 := n12_; have NB607_574 := n13_; have NB581_607 := n14_; have NB607_581 := n15_; have NB592_607 := n16_; have NB607_592 := n17_; have NB601_607 := n18_; have NB607_601 := n19_; have NB602_607 := n20_; have NB607_602 := n21_; clear n0_ n1_ n2_ n3_ n4_ n5_ n6_ n7_ n8_ n9_ n10_ n11_ n12_ n13_ n14_ n15_ n16_ n17_ n18_ n19_ n20_ n21_; clear hb hbox hg; have hnb51 := NB607_574.out; have hnc51 := NB574_607.out; have hnb52 := NB607_581.out; have hnc52 := NB581_607.out; have hnb53 := NB607_592.out; have hnc53 := NB592_607.out; have hnb54 := NB607_601.out; have hnc54 := NB601_607.out; have hnb55 := NB607_602.out; have hnc55 := NB602_607.out; have hcz56_0 : w50.cell? ⟨gb607, 0, none⟩ = some (.string (⟨#[]⟩ : ByteArray)) := (blk_cell BK607.out 0).trans rfl; have hcz56_1 : w50.cell? ⟨gb607, 1, none⟩ = some (.string (⟨#[]⟩ : ByteArray)) := (blk_cell BK607.out 1).trans rfl; have hcz56_2 : w50.cell? ⟨gb607, 2, none⟩ = some (.int .i64 0) := (blk_cell BK607.out 2).trans rfl; have hfz56_0 := blk_frozen BK607.out 0; have hfz56_1 := blk_frozen BK607.out 1; have hfz56_2 := blk_frozen BK607.out 2; have hcz57_0 : w50.cell? ⟨gb601, 0, none⟩ = some (.string t596) := (blk_cell BK601.out 0).trans rfl; have hcz57_1 : w50.cell? ⟨gb601, 1, none⟩ = some (.string t597) := (blk_cell BK601.out 1).trans rfl; have hcz57_2 : w50.cell? ⟨gb601, 2, none⟩ = some (.int .i64 t598) := (blk_cell BK601.out 2).trans rfl; have hfz57_0 := blk_frozen BK601.out 0; have hfz57_1 := blk_frozen BK601.out 1; have hfz57_2 := blk_frozen BK601.out 2; have hcz58_0 : w50.cell? ⟨gb602, 0, none⟩ = some (.string t599) := (blk_cell BK602.out 0).trans rfl; have hcz58_1 : w50.cell? ⟨gb602, 1, none⟩ = some (.string t600) := (blk_cell BK602.out 1).trans rfl; have hfz58_0 := blk_frozen BK602.out 0; have hfz58_1 := blk_frozen BK602.out 1) | ((with_reducible refine gate_callee (f := 27) rfl ?_); refine goesL_ (some 69) rfl rfl Tryd.func27 (by kernel_rfl) rfl #[.agg #[.string t596, .string t597, .int .i64 t598], .agg #[.string t599, .string t600]] rfl (by (try simp only [List.map_toArray, List.map_cons, List.map_nil]); first | done | rfl | (simp only [List.length_drop, List.length_take]; rfl)) ?_; (with_reducible refine (spec_AppendRecord.calls k t596 t597 t598 t599 t600 t608 t609 t610 t611 _ A14.out).mono ?_); rintro e w59 ⟨rfl, hb⟩; refine ⟨_, rfl, ?_⟩; have n0_ := Aside0.mk (Kd.R_below (by (with_reducible repeat (first | apply Kd.R_alloc | apply Kd.R_drewN | apply Kd.R_drew)); exact (Kd.R_mono (Kd.R_far (p := ⟨gb607, 2, none⟩) (Kd.R_far (p := ⟨gb607, 1, none⟩) (Kd.R_far (p := ⟨gb607, 0, none⟩) (Kd.R_types HO577.out BK607.out (by decide)) (fun _ hk => hk.2) (.string t603)) (fun _ hk => hk.2) (.string t604)) (fun _ hk => hk.2) (.int .i64 t605)) (fun _ h_ => h_.1))) hb); have n1_ := Aside0.mk (Kd.R_below (by (with_reducible repeat (first | apply Kd.R_alloc | apply Kd.R_drewN | apply Kd.R_drew)); exact (Kd.R_mono (Kd.R_far (p := ⟨gb607, 2, none⟩) (Kd.R_far (p := ⟨gb607, 1, none⟩) (Kd.R_far (p := ⟨gb607, 0, none⟩) (Kd.R_types HO588.out BK607.out (by decide)) (fun _ hk => hk.2) (.string t603)) (fun _ hk => hk.2) (.string t604)) (fun _ hk => hk.2) (.int .i64 t605)) (fun _ h_ => h_.1))) hb); have n2_ := Aside0.mk (Kd.R_below (by (with_reducible repeat (first | apply Kd.R_alloc | apply Kd.R_drewN | apply Kd.R_drew)); exact (Kd.R_mono (Kd.R_far (p := ⟨gb607, 2, none⟩) (Kd.R_far (p := ⟨gb607, 1, none⟩) (Kd.R_far (p := ⟨gb607, 0, none⟩) (Kd.R_types HO595.out BK607.out (by decide)) (fun _ hk => hk.2) (.string t603)) (fun _ hk => hk.2) (.string t604)) (fun _ hk => hk.2) (.int .i64 t605)) (fun _ h_ => h_.1))) hb); have n3_ := Aside0.mk (blk_below (g := gb574) (o := .cells #[.string t572, .string t573] 27 (0, 0)) (by (with_reducible repeat (first | refine blk_drewN ?_ _ | refine blk_drew ?_ | refine blk_alloc ?_ _)); refine blk_far ?_ NB574_607.out _; (with_reducible repeat (first | refine blk_drewN ?_ _ | refine blk_drew ?_ | refine blk_alloc ?_ _)); refine blk_far ?_ NB574_607.out _; (with_reducible repeat (first | refine blk_drewN ?_ _ | refine blk_drew ?_ | refine blk_alloc ?_ _)); refine blk_far ?_ NB574_607.out _; (with_reducible repeat (first | refine blk_drewN ?_ _ | refine blk_drew ?_ | refine blk_alloc ?_ _)); exact BK574.out) hb); have n4_ := Aside0.mk (blk_below (g := gb581) (o := .cells #[.string t579, .string t580] 27 (0, 0)) (by (with_reducible repeat (first | refine blk_drewN ?_ _ | refine blk_drew ?_ | refine blk_alloc ?_ _)); refine blk_far ?_ NB581_607.out _; (with_reducible repeat (first | refine blk_drewN ?_ _ | refine blk_drew ?_ | refine blk_alloc ?_ _)); refine blk_far ?_ NB581_607.out _; (with_reducible repeat (first | refine blk_drewN ?_ _ | refine blk_drew ?_ | refine blk_alloc ?_ _)); refine blk_far ?_ NB581_607.out _; (with_reducible repeat (first | refine blk_drewN ?_ _ | refine blk_drew ?_ | refine blk_alloc ?_ _)); exact BK581.out) hb); have n5_ := Aside0.mk (blk_below (g := gb592) (o := .cells #[.string t589, .string t590, .int .i64 t591] 31 (0, 0)) (by (with_reducible repeat (first | refine blk_drewN ?_ _ | refine blk_drew ?_ | refine blk_alloc ?_ _)); refine blk_far ?_ NB592_607.out _; (with_reducible repeat (first | refine blk_drewN ?_ _ | refine blk_drew ?_ | refine blk_alloc ?_ _)); refine blk_far ?_ NB592_607.out _; (with_reducible repeat (first | refine blk_drewN ?_ _ | refine blk_drew ?_ | refine blk_alloc ?_ _)); refine blk_far ?_ NB592_607.out _; (with_reducible repeat (first | refine blk_drewN ?_ _ | refine blk_drew ?_ | refine blk_alloc ?_ _)); exact BK592.out) hb); have n6_ := Aside0.mk (blk_below (g := gb601) (o := .cells #[.string t596, .string t597, .int .i64 t598] 31 (0, 0)) (by (with_reducible repeat (first | refine blk_drewN ?_ _ | refine blk_drew ?_ | refine blk_alloc ?_ _)); refine blk_far ?_ NB601_607.out _; (with_reducible repeat (first | refine blk_drewN ?_ _ | refine blk_drew ?_ | refine blk_alloc ?_ _)); refine blk_far ?_ NB601_607.out _; (with_reducible repeat (first | refine blk_drewN ?_ _ | refine blk_drew ?_ | refine blk_alloc ?_ _)); refine blk_far ?_ NB601_607.out _; (with_reducible repeat (first | refine blk_drewN ?_ _ | refine blk_drew ?_ | refine blk_alloc ?_ _)); exact BK601.out) hb); have n7_ := Aside0.mk (blk_below (g := gb602) (o := .cells #[.string t599, .string t600] 27 (0, 0)) (by (with_reducible repeat (first | refine blk_drewN ?_ _ | refine blk_drew ?_ | refine blk_alloc ?_ _)); refine blk_far ?_ NB602_607.out _; (with_reducible repeat (first | refine blk_drewN ?_ _ | refine blk_drew ?_ | refine blk_alloc ?_ _)); refine blk_far ?_ NB602_607.out _; (with_reducible repeat (first | refine blk_drewN ?_ _ | refine blk_drew ?_ | refine blk_alloc ?_ _)); refine blk_far ?_ NB602_607.out _; (with_reducible repeat (first | refine blk_drewN ?_ _ | refine blk_drew ?_ | refine blk_alloc ?_ _)); exact BK602.out) hb); have n8_ := Aside0.mk (blk_below (g := gb607) (o := .cells #[.string t603, .string t604, .int .i64 t605] 31 (0, 0)) (by (with_reducible repeat (first | refine blk_drewN ?_ _ | refine blk_drew ?_ | refine blk_alloc ?_ _)); refine blk_put (cs := #[.string t603, .string t604, .int .i64 0]) ?_ 2 _ rfl; (with_reducible repeat (first | refine blk_drewN ?_ _ | refine blk_drew ?_ | refine blk_alloc ?_ _)); refine blk_put (cs := #[.string t603, .string (⟨#[]⟩ : ByteArray), .int .i64 0]) ?_ 1 _ rfl; (with_reducible repeat (first | refine blk_drewN ?_ _ | refine blk_drew ?_ | refine blk_alloc ?_ _)); refine blk_put (cs := #[.string (⟨#[]⟩ : ByteArray), .string (⟨#[]⟩ : ByteArray), .int .i64 0]) ?_ 0 _ rfl; (with_reducible repeat (first | refine blk_drewN ?_ _ | refine blk_drew ?_ | refine blk_alloc ?_ _)); exact BK607.out) hb); have n9_ := Aside0.mk (below_step (by repeat (first | (with_reducible first | exact HB.out | apply below_alloc | apply pw_below_drewN | apply below_drew1 | refine below_set ?_ GE574.out | refine below_set ?_ GE581.out | refine below_set ?_ GE592.out | refine below_set ?_ GE601.out | refine below_set ?_ GE602.out | refine below_set ?_ GE607.out) | exact HB.out)) hb); clear HO577; clear HO588; clear HO595; clear BK574; clear BK581; clear BK592; clear BK601; clear BK602; clear BK607; clear HB; have HO577 := n0_; have HO588 := n1_; have HO595 := n2_; have BK574 := n3_; have BK581 := n4_; have BK592 := n5_; have BK601 := n6_; have BK602 := n7_; have BK607 := n8_; have HB := n9_; clear n0_ n1_ n2_ n3_ n4_ n5_ n6_ n7_ n8_ n9_; (try clear hb); (try clear hb2); (try clear hk); (try clear hi)) | ((with_reducible refine gate_dst (N := 15) rfl ?_); (try (refine gate_guard (by rfl) ?_; dsimp only)); refine box_event ?hg (N := 15) ?hd (cs := #[.string (⟨#[]⟩ : ByteArray), .string (⟨#[]⟩ : ByteArray), .int .i64 0]) (t := 31) ?hr ?_; (case hd => rfl); (case hg => rfl); (case hr => first | (go_simp; done) | (go_simp; rfl)); intro gb612 hg w60 hbox hb; have n0_ := Aside0.mk (Kd.R_below (by (with_reducible repeat (first | apply Kd.R_alloc | apply Kd.R_drewN | apply Kd.R_drew)); exact HO577.out) hb); have n1_ := Aside0.mk (Kd.R_below (by (with_reducible repeat (first | apply Kd.R_alloc | apply Kd.R_drewN | apply Kd.R_drew)); exact HO588.out) hb); have n2_ := Aside0.mk (Kd.R_below (by (with_reducible repeat (first | apply Kd.R_alloc | apply Kd.R_drewN | apply Kd.R_drew)); exact HO595.out) hb); have n3_ := Aside0.mk (blk_below BK574.out hb); have n4_ := Aside0.mk (blk_below BK581.out hb); have n5_ := Aside0.mk (blk_below BK592.out hb); have n6_ := Aside0.mk (blk_below BK601.out hb); have n7_ := Aside0.mk (blk_below BK602.out hb); have n8_ := Aside0.mk (blk_below BK607.out hb); have n9_ := Aside0.mk (below_step (by repeat (first | (with_reducible first | exact HB.out | apply below_alloc | apply pw_below_drewN | apply below_drew1 | refine below_set ?_ GE574.out | refine below_set ?_ GE581.out | refine below_set ?_ GE592.out | refine below_set ?_ GE601.out | refine below_set ?_ GE602.out | refine below_set ?_ GE607.out) | exact HB.out)) hb); have n10_ := Aside0.mk (hbox); have n11_ := Aside0.mk ((by rw [hg]; exact (below_size (by repeat (first | (with_reducible first | exact HB.out | apply below_alloc | apply pw_below_drewN | apply below_drew1 | refine below_set ?_ GE574.out | refine below_set ?_ GE581.out | refine below_set ?_ GE592.out | refine below_set ?_ GE601.out | refine below_set ?_ GE602.out | refine below_set ?_ GE607.out) | exact HB.out))) : w.heap.size ≤ gb612)); have n12_ := Aside0.mk ((by rw [hg]; exact (below_size (by repeat (first | (with_reducible first | exact HB.out | apply below_alloc | apply pw_below_drewN | apply below_drew1 | refine below_set ?_ GE574.out | refine below_set ?_ GE581.out | refine below_set ?_ GE592.out | refine below_set ?_ GE601.out | refine below_set ?_ GE602.out | refine below_set ?_ GE607.out) | exact HB.out))) : w.heap.size ≤ gb612)); have n13_ := Aside0.mk ((by rw [hg]; exact Nat.ne_of_lt (blk_lt (g := gb574) (o := .cells #[.string t572, .string t573] 27 (0, 0)) (by (with_reducible repeat (first | refine blk_drewN ?_ _ | refine blk_drew ?_ | refine blk_alloc ?_ _)); exact BK574.out)) : gb574 ≠ gb612)); have n14_ := Aside0.mk ((by rw [hg]; exact Nat.ne_of_gt (blk_lt (g := gb574) (o := .cells #[.string t572, .string t573] 27 (0, 0)) (by (with_reducible repeat (first | refine blk_drewN ?_ _ | refine blk_drew ?_ | refine blk_alloc ?_ _)); exact BK574.out)) : gb612 ≠ gb574)); have n15_ := Aside0.mk ((by rw [hg]; exact Nat.ne_of_lt (blk_lt (g := gb581) (o := .cells #[.string t579, .string t580] 27 (0, 0)) (by (with_reducible repeat (first | refine blk_drewN ?_ _ | refine blk_drew ?_ | refine blk_alloc ?_ _)); exact BK581.out)) : gb581 ≠ gb612)); have n16_ := Aside0.mk ((by rw [hg]; exact Nat.ne_of_gt (blk_lt (g := gb581) (o := .cells #[.string t579, .string t580] 27 (0, 0)) (by (with_reducible repeat (first | refine blk_drewN ?_ _ | refine blk_drew ?_ | refine blk_alloc ?_ _)); exact BK581.out)) : gb612 ≠ gb581)); have n17_ := Aside0.mk ((by rw [hg]; exact Nat.ne_of_lt (blk_lt (g := gb592) (o := .cells #[.string t589, .string t590, .int .i64 t591] 31 (0, 0)) (by (with_reducible repeat (first | refine blk_drewN ?_ _ | refine blk_drew ?_ | refine blk_alloc ?_ _)); exact BK592.out)) : gb592 ≠ gb612)); have n18_ := Aside0.mk ((by rw [hg]; exact Nat.ne_of_gt (blk_lt (g := gb592) (o := .cells #[.string t589, .string t590, .int .i64 t591] 31 (0, 0)) (by (with_reducible repeat (first | refine blk_drewN ?_ _ | refine blk_drew ?_ | refine blk_alloc ?_ _)); exact BK592.out)) : gb612 ≠ gb592)); have n19_ := Aside0.mk ((by rw [hg]; exact Nat.ne_of_lt (blk_lt (g := gb601) (o := .cells #[.string t596, .string t597, .int .i64 t598] 31 (0, 0)) (by (with_reducible repeat (first | refine blk_drewN ?_ _ | refine blk_drew ?_ | refine blk_alloc ?_ _)); exact BK601.out)) : gb601 ≠ gb612)); have n20_ := Aside0.mk ((by rw [hg]; exact Nat.ne_of_gt (blk_lt (g := gb601) (o := .cells #[.string t596, .string t597, .int .i64 t598] 31 (0, 0)) (by (with_reducible repeat (first | refine blk_drewN ?_ _ | refine blk_drew ?_ | refine blk_alloc ?_ _)); exact BK601.out)) : gb612 ≠ gb601)); have n21_ := Aside0.mk ((by rw [hg]; exact Nat.ne_of_lt (blk_lt (g := gb602) (o := .cells #[.string t599, .string t600] 27 (0, 0)) (by (with_reducible repeat (first | refine blk_drewN ?_ _ | refine blk_drew ?_ | refine blk_alloc ?_ _)); exact BK602.out)) : gb602 ≠ gb612)); have n22_ := Aside0.mk ((by rw [hg]; exact Nat.ne_of_gt (blk_lt (g := gb602) (o := .cells #[.string t599, .string t600] 27 (0, 0)) (by (with_reducible repeat (first | refine blk_drewN ?_ _ | refine blk_drew ?_ | refine blk_alloc ?_ _)); exact BK602.out)) : gb612 ≠ gb602)); have n23_ := Aside0.mk ((by rw [hg]; exact Nat.ne_of_lt (blk_lt (g := gb607) (o := .cells #[.string t603, .string t604, .int .i64 t605] 31 (0, 0)) (by (with_reducible repeat (first | refine blk_drewN ?_ _ | refine blk_drew ?_ | refine blk_alloc ?_ _)); exact BK607.out)) : gb607 ≠ gb612)); have n24_ := Aside0.mk ((by rw [hg]; exact Nat.ne_of_gt (blk_lt (g := gb607) (o := .cells #[.string t603, .string t604, .int .i64 t605] 31 (0, 0)) (by (with_reducible repeat (first | refine blk_drewN ?_ _ | refine blk_drew ?_ | refine blk_alloc ?_ _)); exact BK607.out)) : gb612 ≠ gb607)); clear HO577; clear HO588; clear HO595; clear BK574; clear BK581; clear BK592; clear BK601; clear BK602; clear BK607; clear HB; have HO577 := n0_; have HO588 := n1_; have HO595 := n2_; have BK574 := n3_; have BK581 := n4_; have BK592 := n5_; have BK601 := n6_; have BK602 := n7_; have BK607 := n8_; have HB := n9_; have BK612 := n10_; have GW612 := n11_; have GE612 := n12_; have NB574_612 := n13_; have NB612_574 := n14_; have NB581_612 := n15_; have NB612_581 := n16_; have NB592_612 := n17_; have NB612_592 := n18_; have NB601_612 := n19_; have NB612_601 := n20_; have NB602_612 := n21_; have NB612_602 := n22_; have NB607_612 := n23_; have NB612_607 := n24_; clear n0_ n1_ n2_ n3_ n4_ n5_ n6_ n7_ n8_ n9_ n10_ n11_ n12_ n13_ n14_ n15_ n16_ n17_ n18_ n19_ n20_ n21_ n22_ n23_ n24_; clear hb hbox hg; have hnb61 := NB612_574.out; have hnc61 := NB574_612.out; have hnb62 := NB612_581.out; have hnc62 := NB581_612.out; have hnb63 := NB612_592.out; have hnc63 := NB592_612.out; have hnb64 := NB612_601.out; have hnc64 := NB601_612.out; have hnb65 := NB612_602.out; have hnc65 := NB602_612.out; have hnb66 := NB612_607.out; have hnc66 := NB607_612.out; have hcz67_0 : w60.cell? ⟨gb612, 0, none⟩ = some (.string (⟨#[]⟩ : ByteArray)) := (blk_cell BK612.out 0).trans rfl; have hcz67_1 : w60.cell? ⟨gb612, 1, none⟩ = some (.string (⟨#[]⟩ : ByteArray)) := (blk_cell BK612.out 1).trans rfl; have hcz67_2 : w60.cell? ⟨gb612, 2, none⟩ = some (.int .i64 0) := (blk_cell BK612.out 2).trans rfl; have hfz67_0 := blk_frozen BK612.out 0; have hfz67_1 := blk_frozen BK612.out 1; have hfz67_2 := blk_frozen BK612.out 2))
    (try simp only [Act.put, List.setIfInBounds_toArray, List.set_cons_zero, List.set_cons_succ])
    go_cut [103] (fun v103 wc => ∃ (kq : Nat) (x103_14 : Bool), v103 = .bool x103_14 ∧ Aside0 (laws_FnLogs.j0 kq t606 x103_14 t596 t597 t598 t599 t600 t603 t604 t605 = some true) ∧ Aside0 (kq ≤ k) ∧ Aside0 (wc.heap[gb574]? = some (.cells #[.string t572, .string t573] 27 (0, 0))) ∧ Aside0 (wc.heap[gb581]? = some (.cells #[.string t579, .string t580] 27 (0, 0))) ∧ Aside0 (wc.heap[gb592]? = some (.cells #[.string t589, .string t590, .int .i64 t591] 31 (0, 0))) ∧ Aside0 (wc.heap[gb601]? = some (.cells #[.string t596, .string t597, .int .i64 t598] 31 (0, 0))) ∧ Aside0 (wc.heap[gb602]? = some (.cells #[.string t599, .string t600] 27 (0, 0))) ∧ Aside0 (wc.heap[gb607]? = some (.cells #[.string t603, .string t604, .int .i64 t605] 31 (0, 0))) ∧ Aside0 (wc.heap[gb612]? = some (.cells #[.string t608, .string t609, .int .i64 t610] 31 (0, 0))) ∧ Aside0 (Below w.heap.size w wc))
    case first =>
      have H := HC15.out
      clear HC15
      replace H := Option.bind_eq_some_iff.mp H
      obtain ⟨t613, A680, H⟩ := H
      have A68 := Aside0.mk A680
      clear A680
      replace H := Option.bind_eq_some_iff.mp H
      obtain ⟨t614, A690, H⟩ := H
      have A69 := Aside0.mk A690
      clear A690
      by_cases c70 : (t613 != t614) = true
      · rw [if_pos c70] at H
        have c70b0 : (t613 != t614) = true := c70
        (try (have c70b1 : decide (t613 = t614) = false := by simpa using c70))
        (try (have c70b2 : (t613 == t614) = false := by simpa using c70))
        (try (have c70b3 : ¬ (t613 = t614) := by simpa using c70))
        clear c70
        (first | rw [c70b0] | (simp only [i64_w, i32_w]; rw [c70b0]) | skip)
        (try rw [c70b1])
        (try rw [c70b2])
        rcases k with _ | kd_
        · exact absurd H (by simp [laws_FnLogs.j0])
        · simp only [laws_FnLogs.j0] at H
          first | (rw [if_pos rfl] at H; exact absurd H (by simp)) | exact absurd H (by simp)
      · rw [if_neg c70] at H
        have c70b0 : (t613 != t614) = false := by simpa using c70
        (try (have c70b1 : decide (t613 = t614) = true := by simpa using c70))
        (try (have c70b2 : (t613 == t614) = true := by simpa using c70))
        clear c70
        (first | rw [c70b0] | (simp only [i64_w, i32_w]; rw [c70b0]) | skip)
        (try rw [c70b1])
        (try rw [c70b2])
        by_cases c71 : t582.toList = t584.toList
        · rw [if_pos c71] at H
          have c71b0 : (t582.toList == t584.toList) = true := beq_iff_eq.mpr c71
          have c71b1 : (t582.toList != t584.toList) = false := bne_eq_false_iff_eq.mpr c71
          clear c71
          by_cases c72 : (t583 != t585) = true
          · rw [if_pos c72] at H
            have c72b0 : (t583 != t585) = true := c72
            (try (have c72b1 : decide (t583 = t585) = false := by simpa using c72))
            (try (have c72b2 : (t583 == t585) = false := by simpa using c72))
            (try (have c72b3 : ¬ (t583 = t585) := by simpa using c72))
            clear c72
            rcases k with _ | kd_
            · exact absurd H (by simp [laws_FnLogs.j0])
            · simp only [laws_FnLogs.j0] at H
              first | (rw [if_pos rfl] at H; exact absurd H (by simp)) | exact absurd H (by simp)
          · rw [if_neg c72] at H
            have c72b0 : (t583 != t585) = false := by simpa using c72
            (try (have c72b1 : decide (t583 = t585) = true := by simpa using c72))
            (try (have c72b2 : (t583 == t585) = true := by simpa using c72))
            clear c72
            replace H := Option.bind_eq_some_iff.mp H
            obtain ⟨t615, A730, H⟩ := H
            have A73 := Aside0.mk A730
            clear A730
            replace H := Option.bind_eq_some_iff.mp H
            obtain ⟨t616, A740, H⟩ := H
            have A74 := Aside0.mk A740
            clear A740
            by_cases c75 : (t615 != t616) = true
            · rw [if_pos c75] at H
              have c75b0 : (t615 != t616) = true := c75
              (try (have c75b1 : decide (t615 = t616) = false := by simpa using c75))
              (try (have c75b2 : (t615 == t616) = false := by simpa using c75))
              (try (have c75b3 : ¬ (t615 = t616) := by simpa using c75))
              clear c75
              rcases k with _ | kd_
              · exact absurd H (by simp [laws_FnLogs.j0])
              · simp only [laws_FnLogs.j0] at H
                first | (rw [if_pos rfl] at H; exact absurd H (by simp)) | exact absurd H (by simp)
            · rw [if_neg c75] at H
              have c75b0 : (t615 != t616) = false := by simpa using c75
              (try (have c75b1 : decide (t615 = t616) = true := by simpa using c75))
              (try (have c75b2 : (t615 == t616) = true := by simpa using c75))
              clear c75
              by_cases c76 : (!(t603.toList == t608.toList) || (!(t604.toList == t609.toList) || (!(t605 == t610)))) = true
              · rw [if_pos c76] at H
                have c76b0 : (!(t603.toList == t608.toList) || (!(t604.toList == t609.toList) || (!(t605 == t610)))) = true := c76
                clear c76
                rcases k with _ | kd_
                · exact absurd H (by simp [laws_FnLogs.j0])
                · simp only [laws_FnLogs.j0] at H
                  first | (rw [if_pos rfl] at H; exact absurd H (by simp)) | exact absurd H (by simp)
              · rw [if_neg c76] at H
                have c76b0 : (!(t603.toList == t608.toList) || (!(t604.toList == t609.toList) || (!(t605 == t610)))) = false := by simpa using c76
                clear c76
                have H' := Aside0.mk H
                clear H
                try go_wp2
                have n0_ : Aside0 (Kd.R (Kd.int .u8) 5 (((w60.setCell ⟨gb612, 0, none⟩ (.string t608)).setCell ⟨gb612, 1, none⟩ (.string t609)).setCell ⟨gb612, 2, none⟩ (.int .i64 t610)) w.heap.size (fun k_ => some k_ ≠ (.slice Ao29 t586.length co29 : Value).ownBlock ∧ some k_ ≠ (.slice Ao36 t593.length co36 : Value).ownBlock) (.slice Ao20 t575.length co20) t575) := ⟨by (with_reducible repeat (first | apply Kd.R_alloc | apply Kd.R_drewN | apply Kd.R_drew)); exact Kd.R_mono (Kd.R_far (p := ⟨gb612, 2, none⟩) (Kd.R_far (p := ⟨gb612, 1, none⟩) (Kd.R_far (p := ⟨gb612, 0, none⟩) (Kd.R_types HO577.out BK612.out (by decide)) (fun _ hk => hk.2) (.string t608)) (fun _ hk => hk.2) (.string t609)) (fun _ hk => hk.2) (.int .i64 t610)) (fun _ hk => ⟨hk.1.1.2, hk.1.2⟩)⟩
                have n1_ : Aside0 (Kd.R (Kd.int .u8) 5 (((w60.setCell ⟨gb612, 0, none⟩ (.string t608)).setCell ⟨gb612, 1, none⟩ (.string t609)).setCell ⟨gb612, 2, none⟩ (.int .i64 t610)) w.heap.size (fun k_ => some k_ ≠ (.slice Ao20 t575.length co20 : Value).ownBlock ∧ some k_ ≠ (.slice Ao36 t593.length co36 : Value).ownBlock) (.slice Ao29 t586.length co29) t586) := ⟨by (with_reducible repeat (first | apply Kd.R_alloc | apply Kd.R_drewN | apply Kd.R_drew)); exact Kd.R_mono (Kd.R_far (p := ⟨gb612, 2, none⟩) (Kd.R_far (p := ⟨gb612, 1, none⟩) (Kd.R_far (p := ⟨gb612, 0, none⟩) (Kd.R_types HO588.out BK612.out (by decide)) (fun _ hk => hk.2) (.string t608)) (fun _ hk => hk.2) (.string t609)) (fun _ hk => hk.2) (.int .i64 t610)) (fun _ hk => ⟨hk.1.1.2, hk.1.2⟩)⟩
                have n2_ : Aside0 (Kd.R (Kd.int .u8) 5 (((w60.setCell ⟨gb612, 0, none⟩ (.string t608)).setCell ⟨gb612, 1, none⟩ (.string t609)).setCell ⟨gb612, 2, none⟩ (.int .i64 t610)) w.heap.size (fun k_ => some k_ ≠ (.slice Ao20 t575.length co20 : Value).ownBlock ∧ some k_ ≠ (.slice Ao29 t586.length co29 : Value).ownBlock) (.slice Ao36 t593.length co36) t593) := ⟨by (with_reducible repeat (first | apply Kd.R_alloc | apply Kd.R_drewN | apply Kd.R_drew)); exact Kd.R_mono (Kd.R_far (p := ⟨gb612, 2, none⟩) (Kd.R_far (p := ⟨gb612, 1, none⟩) (Kd.R_far (p := ⟨gb612, 0, none⟩) (Kd.R_types HO595.out BK612.out (by decide)) (fun _ hk => hk.2) (.string t608)) (fun _ hk => hk.2) (.string t609)) (fun _ hk => hk.2) (.int .i64 t610)) (fun _ hk => ⟨hk.1.1.2, hk.1.2⟩)⟩
                have n3_ : Aside0 ((((w60.setCell ⟨gb612, 0, none⟩ (.string t608)).setCell ⟨gb612, 1, none⟩ (.string t609)).setCell ⟨gb612, 2, none⟩ (.int .i64 t610)).heap[gb574]? = some (.cells #[.string t572, .string t573] 27 (0, 0))) := ⟨by (with_reducible repeat (first | refine blk_drewN ?_ _ | refine blk_drew ?_ | refine blk_alloc ?_ _)); refine blk_far ?_ NB574_612.out _; (with_reducible repeat (first | refine blk_drewN ?_ _ | refine blk_drew ?_ | refine blk_alloc ?_ _)); refine blk_far ?_ NB574_612.out _; (with_reducible repeat (first | refine blk_drewN ?_ _ | refine blk_drew ?_ | refine blk_alloc ?_ _)); refine blk_far ?_ NB574_612.out _; (with_reducible repeat (first | refine blk_drewN ?_ _ | refine blk_drew ?_ | refine blk_alloc ?_ _)); exact BK574.out⟩
                have n4_ : Aside0 ((((w60.setCell ⟨gb612, 0, none⟩ (.string t608)).setCell ⟨gb612, 1, none⟩ (.string t609)).setCell ⟨gb612, 2, none⟩ (.int .i64 t610)).heap[gb581]? = some (.cells #[.string t579, .string t580] 27 (0, 0))) := ⟨by (with_reducible repeat (first | refine blk_drewN ?_ _ | refine blk_drew ?_ | refine blk_alloc ?_ _)); refine blk_far ?_ NB581_612.out _; (with_reducible repeat (first | refine blk_drewN ?_ _ | refine blk_drew ?_ | refine blk_alloc ?_ _)); refine blk_far ?_ NB581_612.out _; (with_reducible repeat (first | refine blk_drewN ?_ _ | refine blk_drew ?_ | refine blk_alloc ?_ _)); refine blk_far ?_ NB581_612.out _; (with_reducible repeat (first | refine blk_drewN ?_ _ | refine blk_drew ?_ | refine blk_alloc ?_ _)); exact BK581.out⟩
                have n5_ : Aside0 ((((w60.setCell ⟨gb612, 0, none⟩ (.string t608)).setCell ⟨gb612, 1, none⟩ (.string t609)).setCell ⟨gb612, 2, none⟩ (.int .i64 t610)).heap[gb592]? = some (.cells #[.string t589, .string t590, .int .i64 t591] 31 (0, 0))) := ⟨by (with_reducible repeat (first | refine blk_drewN ?_ _ | refine blk_drew ?_ | refine blk_alloc ?_ _)); refine blk_far ?_ NB592_612.out _; (with_reducible repeat (first | refine blk_drewN ?_ _ | refine blk_drew ?_ | refine blk_alloc ?_ _)); refine blk_far ?_ NB592_612.out _; (with_reducible repeat (first | refine blk_drewN ?_ _ | refine blk_drew ?_ | refine blk_alloc ?_ _)); refine blk_far ?_ NB592_612.out _; (with_reducible repeat (first | refine blk_drewN ?_ _ | refine blk_drew ?_ | refine blk_alloc ?_ _)); exact BK592.out⟩
                have n6_ : Aside0 ((((w60.setCell ⟨gb612, 0, none⟩ (.string t608)).setCell ⟨gb612, 1, none⟩ (.string t609)).setCell ⟨gb612, 2, none⟩ (.int .i64 t610)).heap[gb601]? = some (.cells #[.string t596, .string t597, .int .i64 t598] 31 (0, 0))) := ⟨by (with_reducible repeat (first | refine blk_drewN ?_ _ | refine blk_drew ?_ | refine blk_alloc ?_ _)); refine blk_far ?_ NB601_612.out _; (with_reducible repeat (first | refine blk_drewN ?_ _ | refine blk_drew ?_ | refine blk_alloc ?_ _)); refine blk_far ?_ NB601_612.out _; (with_reducible repeat (first | refine blk_drewN ?_ _ | refine blk_drew ?_ | refine blk_alloc ?_ _)); refine blk_far ?_ NB601_612.out _; (with_reducible repeat (first | refine blk_drewN ?_ _ | refine blk_drew ?_ | refine blk_alloc ?_ _)); exact BK601.out⟩
                have n7_ : Aside0 ((((w60.setCell ⟨gb612, 0, none⟩ (.string t608)).setCell ⟨gb612, 1, none⟩ (.string t609)).setCell ⟨gb612, 2, none⟩ (.int .i64 t610)).heap[gb602]? = some (.cells #[.string t599, .string t600] 27 (0, 0))) := ⟨by (with_reducible repeat (first | refine blk_drewN ?_ _ | refine blk_drew ?_ | refine blk_alloc ?_ _)); refine blk_far ?_ NB602_612.out _; (with_reducible repeat (first | refine blk_drewN ?_ _ | refine blk_drew ?_ | refine blk_alloc ?_ _)); refine blk_far ?_ NB602_612.out _; (with_reducible repeat (first | refine blk_drewN ?_ _ | refine blk_drew ?_ | refine blk_alloc ?_ _)); refine blk_far ?_ NB602_612.out _; (with_reducible repeat (first | refine blk_drewN ?_ _ | refine blk_drew ?_ | refine blk_alloc ?_ _)); exact BK602.out⟩
                have n8_ : Aside0 ((((w60.setCell ⟨gb612, 0, none⟩ (.string t608)).setCell ⟨gb612, 1, none⟩ (.string t609)).setCell ⟨gb612, 2, none⟩ (.int .i64 t610)).heap[gb607]? = some (.cells #[.string t603, .string t604, .int .i64 t605] 31 (0, 0))) := ⟨by (with_reducible repeat (first | refine blk_drewN ?_ _ | refine blk_drew ?_ | refine blk_alloc ?_ _)); refine blk_far ?_ NB607_612.out _; (with_reducible repeat (first | refine blk_drewN ?_ _ | refine blk_drew ?_ | refine blk_alloc ?_ _)); refine blk_far ?_ NB607_612.out _; (with_reducible repeat (first | refine blk_drewN ?_ _ | refine blk_drew ?_ | refine blk_alloc ?_ _)); refine blk_far ?_ NB607_612.out _; (with_reducible repeat (first | refine blk_drewN ?_ _ | refine blk_drew ?_ | refine blk_alloc ?_ _)); exact BK607.out⟩
                have n9_ : Aside0 ((((w60.setCell ⟨gb612, 0, none⟩ (.string t608)).setCell ⟨gb612, 1, none⟩ (.string t609)).setCell ⟨gb612, 2, none⟩ (.int .i64 t610)).heap[gb612]? = some (.cells #[.string t608, .string t609, .int .i64 t610] 31 (0, 0))) := ⟨by (with_reducible repeat (first | refine blk_drewN ?_ _ | refine blk_drew ?_ | refine blk_alloc ?_ _)); refine blk_put (cs := #[.string t608, .string t609, .int .i64 0]) ?_ 2 _ rfl; (with_reducible repeat (first | refine blk_drewN ?_ _ | refine blk_drew ?_ | refine blk_alloc ?_ _)); refine blk_put (cs := #[.string t608, .string (⟨#[]⟩ : ByteArray), .int .i64 0]) ?_ 1 _ rfl; (with_reducible repeat (first | refine blk_drewN ?_ _ | refine blk_drew ?_ | refine blk_alloc ?_ _)); refine blk_put (cs := #[.string (⟨#[]⟩ : ByteArray), .string (⟨#[]⟩ : ByteArray), .int .i64 0]) ?_ 0 _ rfl; (with_reducible repeat (first | refine blk_drewN ?_ _ | refine blk_drew ?_ | refine blk_alloc ?_ _)); exact BK612.out⟩
                have n10_ : Aside0 (Below w.heap.size w (((w60.setCell ⟨gb612, 0, none⟩ (.string t608)).setCell ⟨gb612, 1, none⟩ (.string t609)).setCell ⟨gb612, 2, none⟩ (.int .i64 t610))) := ⟨by repeat (first | (with_reducible first | exact HB.out | apply below_alloc | apply pw_below_drewN | apply below_drew1 | refine below_set ?_ GE574.out | refine below_set ?_ GE581.out | refine below_set ?_ GE592.out | refine below_set ?_ GE601.out | refine below_set ?_ GE602.out | refine below_set ?_ GE607.out | refine below_set ?_ GE612.out) | exact HB.out)⟩
                (try clear HO577)
                (try clear HO588)
                (try clear HO595)
                (try clear BK574)
                (try clear BK581)
                (try clear BK592)
                (try clear BK601)
                (try clear BK602)
                (try clear BK607)
                (try clear BK612)
                (try clear HB)
                generalize (((w60.setCell ⟨gb612, 0, none⟩ (.string t608)).setCell ⟨gb612, 1, none⟩ (.string t609)).setCell ⟨gb612, 2, none⟩ (.int .i64 t610)) = w77 at n0_ n1_ n2_ n3_ n4_ n5_ n6_ n7_ n8_ n9_ n10_ ⊢
                have HO577 := n0_
                have HO588 := n1_
                have HO595 := n2_
                have BK574 := n3_
                have BK581 := n4_
                have BK592 := n5_
                have BK601 := n6_
                have BK602 := n7_
                have BK607 := n8_
                have BK612 := n9_
                have HB := n10_
                clear n0_ n1_ n2_ n3_ n4_ n5_ n6_ n7_ n8_ n9_ n10_
                have n0_ := Aside0.mk (Kd.R_drew HO577.out)
                have n1_ := Aside0.mk (Kd.R_drew HO588.out)
                have n2_ := Aside0.mk (Kd.R_drew HO595.out)
                have n3_ := Aside0.mk (blk_drew BK574.out)
                have n4_ := Aside0.mk (blk_drew BK581.out)
                have n5_ := Aside0.mk (blk_drew BK592.out)
                have n6_ := Aside0.mk (blk_drew BK601.out)
                have n7_ := Aside0.mk (blk_drew BK602.out)
                have n8_ := Aside0.mk (blk_drew BK607.out)
                have n9_ := Aside0.mk (blk_drew BK612.out)
                have n10_ := Aside0.mk (below_drew1 HB.out)
                clear HO577
                clear HO588
                clear HO595
                clear BK574
                clear BK581
                clear BK592
                clear BK601
                clear BK602
                clear BK607
                clear BK612
                clear HB
                have HO577 := n0_
                have HO588 := n1_
                have HO595 := n2_
                have BK574 := n3_
                have BK581 := n4_
                have BK592 := n5_
                have BK601 := n6_
                have BK602 := n7_
                have BK607 := n8_
                have BK612 := n9_
                have HB := n10_
                clear n0_ n1_ n2_ n3_ n4_ n5_ n6_ n7_ n8_ n9_ n10_
                refine start_ (n := 32) (S := fun w' => w'.cell? ⟨gb574, 0, none⟩ = some (.string t572) ∧ w'.cell? ⟨gb574, 1, none⟩ = some (.string t573) ∧ w'.cell? ⟨gb592, 0, none⟩ = some (.string t589) ∧ w'.cell? ⟨gb592, 1, none⟩ = some (.string t590) ∧ w'.cell? ⟨gb592, 2, none⟩ = some (.int .i64 t591) ∧ w'.cell? ⟨gb607, 0, none⟩ = some (.string t603) ∧ w'.cell? ⟨gb607, 1, none⟩ = some (.string t604) ∧ w'.cell? ⟨gb607, 2, none⟩ = some (.int .i64 t605) ∧ w'.cell? ⟨gb612, 0, none⟩ = some (.string t608) ∧ w'.cell? ⟨gb612, 1, none⟩ = some (.string t609) ∧ w'.cell? ⟨gb612, 2, none⟩ = some (.int .i64 t610)) (ds := []) #[false, false, false, false, false, false, false, false, false, false, false, false, false, false, false, false, false, false, false, false, false, false, false, false, false, false, false, false, false, false, false, false] (by kernel_rfl) rfl rfl ⟨(blk_cell BK574.out 0).trans rfl, (blk_cell BK574.out 1).trans rfl, (blk_cell BK592.out 0).trans rfl, (blk_cell BK592.out 1).trans rfl, (blk_cell BK592.out 2).trans rfl, (blk_cell BK607.out 0).trans rfl, (blk_cell BK607.out 1).trans rfl, (blk_cell BK607.out 2).trans rfl, (blk_cell BK612.out 0).trans rfl, (blk_cell BK612.out 1).trans rfl, (blk_cell BK612.out 2).trans rfl⟩ (fun hHeld => ?_); refine with_tabW laws_FnLogs.tab11 laws_FnLogs.bits11 (fun HT_ HW_ => ?_)
                generalize w77.drew = w78 at HO577 HO588 HO595 BK574 BK581 BK592 BK601 BK602 BK607 BK612 HB hHeld ⊢
                refine take_ (i := 0) (N := some 72) (v := ?_) (a' := ?_) #[true, false, false, false, false, false, false, false, false, false, false, false, false, false, false, false, false, false, false, false, false, false, false, false, false, false, false, false, false, false, false, false] rfl rfl (take_ofW HT_.out HW_.out (by kernel_rfl)) (fun _ _ _ h => h) (Or.inl ⟨by rfl, ?_⟩) hHeld ?_ ?_
                rotate_left
                · rintro w' ⟨s0, s1, s2, s3, s4, s5, s6, s7, s8, s9, s10⟩
                  go_simp
                  with_reducible rfl
                rotate_left
                · simp only [Act.put, List.setIfInBounds_toArray, List.set_cons_zero, List.set_cons_succ, i64_w, i32_w]
                  rfl
                refine take_ (i := 2) (N := some 74) (v := ?_) (a' := ?_) #[true, false, true, false, false, false, false, false, false, false, false, false, false, false, false, false, false, false, false, false, false, false, false, false, false, false, false, false, false, false, false, false] rfl rfl (take_ofW HT_.out HW_.out (by kernel_rfl)) (fun _ _ _ h => h) (Or.inl ⟨by rfl, ?_⟩) hHeld ?_ ?_
                rotate_left
                · rintro w' ⟨s0, s1, s2, s3, s4, s5, s6, s7, s8, s9, s10⟩
                  go_simp
                  with_reducible rfl
                rotate_left
                · simp only [Act.put, List.setIfInBounds_toArray, List.set_cons_zero, List.set_cons_succ, i64_w, i32_w]
                  rfl
                refine one_ (i := 1) (N := some 73) #[true, true, true, false, false, false, false, false, false, false, false, false, false, false, false, false, false, false, false, false, false, false, false, false, false, false, false, false, false, false, false, false] rfl rfl (one_of HT_.out (by kernel_rfl)) (by decide) (fun K hK => ?_)
                refine goes_ Tryd.func40 (by kernel_rfl) rfl #[.agg #[.string t572, .string t573]] (by rfl) rfl rfl (by (try simp only [List.map_toArray, List.map_cons, List.map_nil]); first | done | rfl | (simp only [List.length_drop, List.length_take]; rfl)) ?_
                with_reducible refine (impl_IsValidRecord.calls k t572 t573 t613 _ A68.out).mono ?_
                rintro e w79 ⟨rfl, hb⟩
                refine ⟨_, rfl, ?_⟩
                have n0_ := Aside0.mk (Kd.R_below (by (with_reducible repeat (first | apply Kd.R_alloc | apply Kd.R_drewN | apply Kd.R_drew)); exact HO577.out) hb)
                have n1_ := Aside0.mk (Kd.R_below (by (with_reducible repeat (first | apply Kd.R_alloc | apply Kd.R_drewN | apply Kd.R_drew)); exact HO588.out) hb)
                have n2_ := Aside0.mk (Kd.R_below (by (with_reducible repeat (first | apply Kd.R_alloc | apply Kd.R_drewN | apply Kd.R_drew)); exact HO595.out) hb)
                have n3_ := Aside0.mk (blk_below BK574.out hb)
                have n4_ := Aside0.mk (blk_below BK581.out hb)
                have n5_ := Aside0.mk (blk_below BK592.out hb)
                have n6_ := Aside0.mk (blk_below BK601.out hb)
                have n7_ := Aside0.mk (blk_below BK602.out hb)
                have n8_ := Aside0.mk (blk_below BK607.out hb)
                have n9_ := Aside0.mk (blk_below BK612.out hb)
                have n10_ := Aside0.mk (below_step (by repeat (first | (with_reducible first | exact HB.out | apply below_alloc | apply pw_below_drewN | apply below_drew1 | refine below_set ?_ GE574.out | refine below_set ?_ GE581.out | refine below_set ?_ GE592.out | refine below_set ?_ GE601.out | refine below_set ?_ GE602.out | refine below_set ?_ GE607.out | refine below_set ?_ GE612.out) | exact HB.out)) hb)
                clear HO577
                clear HO588
                clear HO595
                clear BK574
                clear BK581
                clear BK592
                clear BK601
                clear BK602
                clear BK607
                clear BK612
                clear HB
                have HO577 := n0_
                have HO588 := n1_
                have HO595 := n2_
                have BK574 := n3_
                have BK581 := n4_
                have BK592 := n5_
                have BK601 := n6_
                have BK602 := n7_
                have BK607 := n8_
                have BK612 := n9_
                have HB := n10_
                clear n0_ n1_ n2_ n3_ n4_ n5_ n6_ n7_ n8_ n9_ n10_
                (try clear hb)
                (try clear hb2)
                (try clear hk)
                (try clear hi)
                refine hK.out _ _ ⟨(blk_cell BK574.out 0).trans rfl, (blk_cell BK574.out 1).trans rfl, (blk_cell BK592.out 0).trans rfl, (blk_cell BK592.out 1).trans rfl, (blk_cell BK592.out 2).trans rfl, (blk_cell BK607.out 0).trans rfl, (blk_cell BK607.out 1).trans rfl, (blk_cell BK607.out 2).trans rfl, (blk_cell BK612.out 0).trans rfl, (blk_cell BK612.out 1).trans rfl, (blk_cell BK612.out 2).trans rfl⟩ (fun hHeld => ?_)
                clear hK K
                refine norm_ (a' := ?_) ?_ ?_
                rotate_left
                · show Act.put _ (some 73) _ = _
                  simp only [Act.put, List.setIfInBounds_toArray, List.set_cons_zero, List.set_cons_succ, i64_w, i32_w]
                  rfl
                refine one_ (i := 3) (N := some 75) #[true, true, true, true, false, false, false, false, false, false, false, false, false, false, false, false, false, false, false, false, false, false, false, false, false, false, false, false, false, false, false, false] rfl rfl (one_of HT_.out (by kernel_rfl)) (by decide) (fun K hK => ?_)
                refine goes_ Tryd.func41 (by kernel_rfl) rfl #[.agg #[.string t572, .string t573]] (by rfl) rfl rfl (by (try simp only [List.map_toArray, List.map_cons, List.map_nil]); first | done | rfl | (simp only [List.length_drop, List.length_take]; rfl)) ?_
                with_reducible refine (spec_IsValidRecord.calls k t572 t573 t614 _ A69.out).mono ?_
                rintro e w80 ⟨rfl, hb⟩
                refine ⟨_, rfl, ?_⟩
                have n0_ := Aside0.mk (Kd.R_below (by (with_reducible repeat (first | apply Kd.R_alloc | apply Kd.R_drewN | apply Kd.R_drew)); exact HO577.out) hb)
                have n1_ := Aside0.mk (Kd.R_below (by (with_reducible repeat (first | apply Kd.R_alloc | apply Kd.R_drewN | apply Kd.R_drew)); exact HO588.out) hb)
                have n2_ := Aside0.mk (Kd.R_below (by (with_reducible repeat (first | apply Kd.R_alloc | apply Kd.R_drewN | apply Kd.R_drew)); exact HO595.out) hb)
                have n3_ := Aside0.mk (blk_below BK574.out hb)
                have n4_ := Aside0.mk (blk_below BK581.out hb)
                have n5_ := Aside0.mk (blk_below BK592.out hb)
                have n6_ := Aside0.mk (blk_below BK601.out hb)
                have n7_ := Aside0.mk (blk_below BK602.out hb)
                have n8_ := Aside0.mk (blk_below BK607.out hb)
                have n9_ := Aside0.mk (blk_below BK612.out hb)
                have n10_ := Aside0.mk (below_step (by repeat (first | (with_reducible first | exact HB.out | apply below_alloc | apply pw_below_drewN | apply below_drew1 | refine below_set ?_ GE574.out | refine below_set ?_ GE581.out | refine below_set ?_ GE592.out | refine below_set ?_ GE601.out | refine below_set ?_ GE602.out | refine below_set ?_ GE607.out | refine below_set ?_ GE612.out) | exact HB.out)) hb)
                clear HO577
                clear HO588
                clear HO595
                clear BK574
                clear BK581
                clear BK592
                clear BK601
                clear BK602
                clear BK607
                clear BK612
                clear HB
                have HO577 := n0_
                have HO588 := n1_
                have HO595 := n2_
                have BK574 := n3_
                have BK581 := n4_
                have BK592 := n5_
                have BK601 := n6_
                have BK602 := n7_
                have BK607 := n8_
                have BK612 := n9_
                have HB := n10_
                clear n0_ n1_ n2_ n3_ n4_ n5_ n6_ n7_ n8_ n9_ n10_
                (try clear hb)
                (try clear hb2)
                (try clear hk)
                (try clear hi)
                refine hK.out _ _ ⟨(blk_cell BK574.out 0).trans rfl, (blk_cell BK574.out 1).trans rfl, (blk_cell BK592.out 0).trans rfl, (blk_cell BK592.out 1).trans rfl, (blk_cell BK592.out 2).trans rfl, (blk_cell BK607.out 0).trans rfl, (blk_cell BK607.out 1).trans rfl, (blk_cell BK607.out 2).trans rfl, (blk_cell BK612.out 0).trans rfl, (blk_cell BK612.out 1).trans rfl, (blk_cell BK612.out 2).trans rfl⟩ (fun hHeld => ?_)
                clear hK K
                refine norm_ (a' := ?_) ?_ ?_
                rotate_left
                · show Act.put _ (some 75) _ = _
                  simp only [Act.put, List.setIfInBounds_toArray, List.set_cons_zero, List.set_cons_succ, i64_w, i32_w]
                  rfl
                refine pure_ (i := 4) (N := some 76) (v := ?_) (a' := ?_) #[true, true, true, true, true, false, false, false, false, false, false, false, false, false, false, false, false, false, false, false, false, false, false, false, false, false, false, false, false, false, false, false] rfl rfl (any_of HT_.out (by kernel_rfl)) (fun _ _ _ h => h) (Or.inl ⟨by rfl, ?_⟩) ?_ ?_
                rotate_left
                · intro w'
                  go_simp
                  with_reducible rfl
                rotate_left
                · simp only [Act.put, List.setIfInBounds_toArray, List.set_cons_zero, List.set_cons_succ, i64_w, i32_w]
                  rfl
                refine pure_ (i := 5) (N := some 77) (v := ?_) (a' := ?_) #[true, true, true, true, true, true, false, false, false, false, false, false, false, false, false, false, false, false, false, false, false, false, false, false, false, false, false, false, false, false, false, false] rfl rfl (any_of HT_.out (by kernel_rfl)) (fun _ _ _ h => h) (Or.inl ⟨by rfl, ?_⟩) ?_ ?_
                rotate_left
                · intro w'
                  go_simp
                  with_reducible rfl
                rotate_left
                · simp only [Act.put, List.setIfInBounds_toArray, List.set_cons_zero, List.set_cons_succ, i64_w, i32_w]
                  rfl
                refine pure_ (i := 6) (N := some 78) (v := ?_) (a' := ?_) #[true, true, true, true, true, true, true, false, false, false, false, false, false, false, false, false, false, false, false, false, false, false, false, false, false, false, false, false, false, false, false, false] rfl rfl (any_of HT_.out (by kernel_rfl)) (fun _ _ _ h => h) (Or.inl ⟨by rfl, ?_⟩) ?_ ?_
                rotate_left
                · intro w'
                  go_simp
                  with_reducible rfl
                rotate_left
                · simp only [Act.put, List.setIfInBounds_toArray, List.set_cons_zero, List.set_cons_succ, i64_w, i32_w]
                  rfl
                refine pure_ (i := 7) (N := some 79) (v := ?_) (a' := ?_) #[true, true, true, true, true, true, true, true, false, false, false, false, false, false, false, false, false, false, false, false, false, false, false, false, false, false, false, false, false, false, false, false] rfl rfl (any_of HT_.out (by kernel_rfl)) (fun _ _ _ h => h) (Or.inl ⟨by rfl, ?_⟩) ?_ ?_
                rotate_left
                · intro w'
                  go_simp
                  with_reducible rfl
                rotate_left
                · simp only [Act.put, List.setIfInBounds_toArray, List.set_cons_zero, List.set_cons_succ, i64_w, i32_w]
                  rfl
                refine pure_ (i := 8) (N := some 80) (v := ?_) (a' := ?_) #[true, true, true, true, true, true, true, true, true, false, false, false, false, false, false, false, false, false, false, false, false, false, false, false, false, false, false, false, false, false, false, false] rfl rfl (any_of HT_.out (by kernel_rfl)) (fun _ _ _ h => h) (Or.inl ⟨by rfl, ?_⟩) ?_ ?_
                rotate_left
                · intro w'
                  go_simp
                  with_reducible rfl
                rotate_left
                · simp only [Act.put, List.setIfInBounds_toArray, List.set_cons_zero, List.set_cons_succ, i64_w, i32_w]
                  rfl
                refine pure_ (i := 9) (N := some 81) (v := ?_) (a' := ?_) #[true, true, true, true, true, true, true, true, true, true, false, false, false, false, false, false, false, false, false, false, false, false, false, false, false, false, false, false, false, false, false, false] rfl rfl (any_of HT_.out (by kernel_rfl)) (fun _ _ _ h => h) (Or.inl ⟨by rfl, ?_⟩) ?_ ?_
                rotate_left
                · intro w'
                  go_simp
                  with_reducible rfl
                rotate_left
                · simp only [Act.put, List.setIfInBounds_toArray, List.set_cons_zero, List.set_cons_succ, i64_w, i32_w]
                  rfl
                refine pure_ (i := 10) (N := some 82) (v := ?_) (a' := ?_) #[true, true, true, true, true, true, true, true, true, true, true, false, false, false, false, false, false, false, false, false, false, false, false, false, false, false, false, false, false, false, false, false] rfl rfl (any_of HT_.out (by kernel_rfl)) (fun _ _ _ h => h) (Or.inl ⟨by rfl, ?_⟩) ?_ ?_
                rotate_left
                · intro w'
                  go_simp
                  with_reducible rfl
                rotate_left
                · simp only [Act.put, List.setIfInBounds_toArray, List.set_cons_zero, List.set_cons_succ, i64_w, i32_w]
                  rfl
                refine pure_ (i := 11) (N := some 83) (v := ?_) (a' := ?_) #[true, true, true, true, true, true, true, true, true, true, true, true, false, false, false, false, false, false, false, false, false, false, false, false, false, false, false, false, false, false, false, false] rfl rfl (any_of HT_.out (by kernel_rfl)) (fun _ _ _ h => h) (Or.inl ⟨by rfl, ?_⟩) ?_ ?_
                rotate_left
                · intro w'
                  go_simp
                  with_reducible rfl
                rotate_left
                · simp only [Act.put, List.setIfInBounds_toArray, List.set_cons_zero, List.set_cons_succ, i64_w, i32_w]
                  rfl
                refine pure_ (i := 12) (N := some 84) (v := ?_) (a' := ?_) #[true, true, true, true, true, true, true, true, true, true, true, true, true, false, false, false, false, false, false, false, false, false, false, false, false, false, false, false, false, false, false, false] rfl rfl (any_of HT_.out (by kernel_rfl)) (fun _ _ _ h => h) (Or.inl ⟨by rfl, ?_⟩) ?_ ?_
                rotate_left
                · intro w'
                  go_simp
                  with_reducible rfl
                rotate_left
                · simp only [Act.put, List.setIfInBounds_toArray, List.set_cons_zero, List.set_cons_succ, i64_w, i32_w]
                  rfl
                refine pure_ (i := 13) (N := some 85) (v := ?_) (a' := ?_) #[true, true, true, true, true, true, true, true, true, true, true, true, true, true, false, false, false, false, false, false, false, false, false, false, false, false, false, false, false, false, false, false] rfl rfl (any_of HT_.out (by kernel_rfl)) (fun _ _ _ h => h) (Or.inl ⟨by rfl, ?_⟩) ?_ ?_
                rotate_left
                · intro w'
                  go_simp
                  with_reducible rfl
                rotate_left
                · simp only [Act.put, List.setIfInBounds_toArray, List.set_cons_zero, List.set_cons_succ, i64_w, i32_w]
                  rfl
                refine pure_ (i := 14) (N := some 86) (v := ?_) (a' := ?_) #[true, true, true, true, true, true, true, true, true, true, true, true, true, true, true, false, false, false, false, false, false, false, false, false, false, false, false, false, false, false, false, false] rfl rfl (any_of HT_.out (by kernel_rfl)) (fun _ _ _ h => h) (Or.inl ⟨by rfl, ?_⟩) ?_ ?_
                rotate_left
                · intro w'
                  go_simp
                  with_reducible rfl
                rotate_left
                · simp only [Act.put, List.setIfInBounds_toArray, List.set_cons_zero, List.set_cons_succ, i64_w, i32_w]
                  rfl
                refine pure_ (i := 15) (N := some 87) (v := ?_) (a' := ?_) #[true, true, true, true, true, true, true, true, true, true, true, true, true, true, true, true, false, false, false, false, false, false, false, false, false, false, false, false, false, false, false, false] rfl rfl (any_of HT_.out (by kernel_rfl)) (fun _ _ _ h => h) (Or.inl ⟨by rfl, ?_⟩) ?_ ?_
                rotate_left
                · intro w'
                  go_simp
                  with_reducible rfl
                rotate_left
                · simp only [Act.put, List.setIfInBounds_toArray, List.set_cons_zero, List.set_cons_succ, i64_w, i32_w]
                  rfl
                refine take_ (i := 16) (N := some 88) (v := ?_) (a' := ?_) #[true, true, true, true, true, true, true, true, true, true, true, true, true, true, true, true, true, false, false, false, false, false, false, false, false, false, false, false, false, false, false, false] rfl rfl (take_ofW HT_.out HW_.out (by kernel_rfl)) (fun _ _ _ h => h) (Or.inl ⟨by rfl, ?_⟩) hHeld ?_ ?_
                rotate_left
                · rintro w' ⟨s0, s1, s2, s3, s4, s5, s6, s7, s8, s9, s10⟩
                  go_simp
                  with_reducible rfl
                rotate_left
                · simp only [Act.put, List.setIfInBounds_toArray, List.set_cons_zero, List.set_cons_succ, i64_w, i32_w]
                  rfl
                refine take_ (i := 18) (N := some 90) (v := ?_) (a' := ?_) #[true, true, true, true, true, true, true, true, true, true, true, true, true, true, true, true, true, false, true, false, false, false, false, false, false, false, false, false, false, false, false, false] rfl rfl (take_ofW HT_.out HW_.out (by kernel_rfl)) (fun _ _ _ h => h) (Or.inl ⟨by rfl, ?_⟩) hHeld ?_ ?_
                rotate_left
                · rintro w' ⟨s0, s1, s2, s3, s4, s5, s6, s7, s8, s9, s10⟩
                  go_simp
                  with_reducible rfl
                rotate_left
                · simp only [Act.put, List.setIfInBounds_toArray, List.set_cons_zero, List.set_cons_succ, i64_w, i32_w]
                  rfl
                refine one_ (i := 17) (N := some 89) #[true, true, true, true, true, true, true, true, true, true, true, true, true, true, true, true, true, true, true, false, false, false, false, false, false, false, false, false, false, false, false, false] rfl rfl (one_of HT_.out (by kernel_rfl)) (by decide) (fun K hK => ?_)
                refine goes_ Tryd.func22 (by kernel_rfl) rfl #[.agg #[.string t589, .string t590, .int .i64 t591]] (by rfl) rfl rfl (by (try simp only [List.map_toArray, List.map_cons, List.map_nil]); first | done | rfl | (simp only [List.length_drop, List.length_take]; rfl)) ?_
                with_reducible refine (impl_IsValidLog.calls k t589 t590 t591 t615 _ ?side1 A73.out).mono ?_
                (case side1 => exact GT.below hG_.out (by repeat (first | (with_reducible first | exact HB.out | apply below_alloc | apply pw_below_drewN | apply below_drew1 | refine below_set ?_ GE574.out | refine below_set ?_ GE581.out | refine below_set ?_ GE592.out | refine below_set ?_ GE601.out | refine below_set ?_ GE602.out | refine below_set ?_ GE607.out | refine below_set ?_ GE612.out) | exact HB.out)) (Nat.le_refl _))
                rintro e w81 ⟨rfl, hb⟩
                refine ⟨_, rfl, ?_⟩
                have n0_ := Aside0.mk (Kd.R_below (by (with_reducible repeat (first | apply Kd.R_alloc | apply Kd.R_drewN | apply Kd.R_drew)); exact HO577.out) hb)
                have n1_ := Aside0.mk (Kd.R_below (by (with_reducible repeat (first | apply Kd.R_alloc | apply Kd.R_drewN | apply Kd.R_drew)); exact HO588.out) hb)
                have n2_ := Aside0.mk (Kd.R_below (by (with_reducible repeat (first | apply Kd.R_alloc | apply Kd.R_drewN | apply Kd.R_drew)); exact HO595.out) hb)
                have n3_ := Aside0.mk (blk_below BK574.out hb)
                have n4_ := Aside0.mk (blk_below BK581.out hb)
                have n5_ := Aside0.mk (blk_below BK592.out hb)
                have n6_ := Aside0.mk (blk_below BK601.out hb)
                have n7_ := Aside0.mk (blk_below BK602.out hb)
                have n8_ := Aside0.mk (blk_below BK607.out hb)
                have n9_ := Aside0.mk (blk_below BK612.out hb)
                have n10_ := Aside0.mk (below_step (by repeat (first | (with_reducible first | exact HB.out | apply below_alloc | apply pw_below_drewN | apply below_drew1 | refine below_set ?_ GE574.out | refine below_set ?_ GE581.out | refine below_set ?_ GE592.out | refine below_set ?_ GE601.out | refine below_set ?_ GE602.out | refine below_set ?_ GE607.out | refine below_set ?_ GE612.out) | exact HB.out)) hb)
                clear HO577
                clear HO588
                clear HO595
                clear BK574
                clear BK581
                clear BK592
                clear BK601
                clear BK602
                clear BK607
                clear BK612
                clear HB
                have HO577 := n0_
                have HO588 := n1_
                have HO595 := n2_
                have BK574 := n3_
                have BK581 := n4_
                have BK592 := n5_
                have BK601 := n6_
                have BK602 := n7_
                have BK607 := n8_
                have BK612 := n9_
                have HB := n10_
                clear n0_ n1_ n2_ n3_ n4_ n5_ n6_ n7_ n8_ n9_ n10_
                (try clear hb)
                (try clear hb2)
                (try clear hk)
                (try clear hi)
                refine hK.out _ _ ⟨(blk_cell BK574.out 0).trans rfl, (blk_cell BK574.out 1).trans rfl, (blk_cell BK592.out 0).trans rfl, (blk_cell BK592.out 1).trans rfl, (blk_cell BK592.out 2).trans rfl, (blk_cell BK607.out 0).trans rfl, (blk_cell BK607.out 1).trans rfl, (blk_cell BK607.out 2).trans rfl, (blk_cell BK612.out 0).trans rfl, (blk_cell BK612.out 1).trans rfl, (blk_cell BK612.out 2).trans rfl⟩ (fun hHeld => ?_)
                clear hK K
                refine norm_ (a' := ?_) ?_ ?_
                rotate_left
                · show Act.put _ (some 89) _ = _
                  simp only [Act.put, List.setIfInBounds_toArray, List.set_cons_zero, List.set_cons_succ, i64_w, i32_w]
                  rfl
                refine one_ (i := 19) (N := some 91) #[true, true, true, true, true, true, true, true, true, true, true, true, true, true, true, true, true, true, true, true, false, false, false, false, false, false, false, false, false, false, false, false] rfl rfl (one_of HT_.out (by kernel_rfl)) (by decide) (fun K hK => ?_)
                refine goes_ Tryd.func20 (by kernel_rfl) rfl #[.agg #[.string t589, .string t590, .int .i64 t591]] (by rfl) rfl rfl (by (try simp only [List.map_toArray, List.map_cons, List.map_nil]); first | done | rfl | (simp only [List.length_drop, List.length_take]; rfl)) ?_
                with_reducible refine (spec_IsValidLog.calls k t589 t590 t591 t616 _ A74.out).mono ?_
                rintro e w82 ⟨rfl, hb⟩
                refine ⟨_, rfl, ?_⟩
                have n0_ := Aside0.mk (Kd.R_below (by (with_reducible repeat (first | apply Kd.R_alloc | apply Kd.R_drewN | apply Kd.R_drew)); exact HO577.out) hb)
                have n1_ := Aside0.mk (Kd.R_below (by (with_reducible repeat (first | apply Kd.R_alloc | apply Kd.R_drewN | apply Kd.R_drew)); exact HO588.out) hb)
                have n2_ := Aside0.mk (Kd.R_below (by (with_reducible repeat (first | apply Kd.R_alloc | apply Kd.R_drewN | apply Kd.R_drew)); exact HO595.out) hb)
                have n3_ := Aside0.mk (blk_below BK574.out hb)
                have n4_ := Aside0.mk (blk_below BK581.out hb)
                have n5_ := Aside0.mk (blk_below BK592.out hb)
                have n6_ := Aside0.mk (blk_below BK601.out hb)
                have n7_ := Aside0.mk (blk_below BK602.out hb)
                have n8_ := Aside0.mk (blk_below BK607.out hb)
                have n9_ := Aside0.mk (blk_below BK612.out hb)
                have n10_ := Aside0.mk (below_step (by repeat (first | (with_reducible first | exact HB.out | apply below_alloc | apply pw_below_drewN | apply below_drew1 | refine below_set ?_ GE574.out | refine below_set ?_ GE581.out | refine below_set ?_ GE592.out | refine below_set ?_ GE601.out | refine below_set ?_ GE602.out | refine below_set ?_ GE607.out | refine below_set ?_ GE612.out) | exact HB.out)) hb)
                clear HO577
                clear HO588
                clear HO595
                clear BK574
                clear BK581
                clear BK592
                clear BK601
                clear BK602
                clear BK607
                clear BK612
                clear HB
                have HO577 := n0_
                have HO588 := n1_
                have HO595 := n2_
                have BK574 := n3_
                have BK581 := n4_
                have BK592 := n5_
                have BK601 := n6_
                have BK602 := n7_
                have BK607 := n8_
                have BK612 := n9_
                have HB := n10_
                clear n0_ n1_ n2_ n3_ n4_ n5_ n6_ n7_ n8_ n9_ n10_
                (try clear hb)
                (try clear hb2)
                (try clear hk)
                (try clear hi)
                refine hK.out _ _ ⟨(blk_cell BK574.out 0).trans rfl, (blk_cell BK574.out 1).trans rfl, (blk_cell BK592.out 0).trans rfl, (blk_cell BK592.out 1).trans rfl, (blk_cell BK592.out 2).trans rfl, (blk_cell BK607.out 0).trans rfl, (blk_cell BK607.out 1).trans rfl, (blk_cell BK607.out 2).trans rfl, (blk_cell BK612.out 0).trans rfl, (blk_cell BK612.out 1).trans rfl, (blk_cell BK612.out 2).trans rfl⟩ (fun hHeld => ?_)
                clear hK K
                refine norm_ (a' := ?_) ?_ ?_
                rotate_left
                · show Act.put _ (some 91) _ = _
                  simp only [Act.put, List.setIfInBounds_toArray, List.set_cons_zero, List.set_cons_succ, i64_w, i32_w]
                  rfl
                refine pure_ (i := 20) (N := some 92) (v := ?_) (a' := ?_) #[true, true, true, true, true, true, true, true, true, true, true, true, true, true, true, true, true, true, true, true, true, false, false, false, false, false, false, false, false, false, false, false] rfl rfl (any_of HT_.out (by kernel_rfl)) (fun _ _ _ h => h) (Or.inl ⟨by rfl, ?_⟩) ?_ ?_
                rotate_left
                · intro w'
                  go_simp
                  with_reducible rfl
                rotate_left
                · simp only [Act.put, List.setIfInBounds_toArray, List.set_cons_zero, List.set_cons_succ, i64_w, i32_w]
                  rfl
                refine pure_ (i := 21) (N := some 93) (v := ?_) (a' := ?_) #[true, true, true, true, true, true, true, true, true, true, true, true, true, true, true, true, true, true, true, true, true, true, false, false, false, false, false, false, false, false, false, false] rfl rfl (any_of HT_.out (by kernel_rfl)) (fun _ _ _ h => h) (Or.inl ⟨by rfl, ?_⟩) ?_ ?_
                rotate_left
                · intro w'
                  go_simp
                  with_reducible rfl
                rotate_left
                · simp only [Act.put, List.setIfInBounds_toArray, List.set_cons_zero, List.set_cons_succ, i64_w, i32_w]
                  rfl
                refine pure_ (i := 22) (N := some 94) (v := ?_) (a' := ?_) #[true, true, true, true, true, true, true, true, true, true, true, true, true, true, true, true, true, true, true, true, true, true, true, false, false, false, false, false, false, false, false, false] rfl rfl (any_of HT_.out (by kernel_rfl)) (fun _ _ _ h => h) (Or.inl ⟨by rfl, ?_⟩) ?_ ?_
                rotate_left
                · intro w'
                  go_simp
                  with_reducible rfl
                rotate_left
                · simp only [Act.put, List.setIfInBounds_toArray, List.set_cons_zero, List.set_cons_succ, i64_w, i32_w]
                  rfl
                refine take_ (i := 23) (N := some 95) (v := ?_) (a' := ?_) #[true, true, true, true, true, true, true, true, true, true, true, true, true, true, true, true, true, true, true, true, true, true, true, true, false, false, false, false, false, false, false, false] rfl rfl (take_ofW HT_.out HW_.out (by kernel_rfl)) (fun _ _ _ h => h) (Or.inl ⟨by rfl, ?_⟩) hHeld ?_ ?_
                rotate_left
                · rintro w' ⟨s0, s1, s2, s3, s4, s5, s6, s7, s8, s9, s10⟩
                  go_simp
                  with_reducible rfl
                rotate_left
                · simp only [Act.put, List.setIfInBounds_toArray, List.set_cons_zero, List.set_cons_succ, i64_w, i32_w]
                  rfl
                refine take_ (i := 24) (N := some 96) (v := ?_) (a' := ?_) #[true, true, true, true, true, true, true, true, true, true, true, true, true, true, true, true, true, true, true, true, true, true, true, true, true, false, false, false, false, false, false, false] rfl rfl (take_ofW HT_.out HW_.out (by kernel_rfl)) (fun _ _ _ h => h) (Or.inl ⟨by rfl, ?_⟩) hHeld ?_ ?_
                rotate_left
                · rintro w' ⟨s0, s1, s2, s3, s4, s5, s6, s7, s8, s9, s10⟩
                  go_simp
                  with_reducible rfl
                rotate_left
                · simp only [Act.put, List.setIfInBounds_toArray, List.set_cons_zero, List.set_cons_succ, i64_w, i32_w]
                  rfl
                refine pure_ (i := 25) (N := some 97) (v := ?_) (a' := ?_) #[true, true, true, true, true, true, true, true, true, true, true, true, true, true, true, true, true, true, true, true, true, true, true, true, true, true, false, false, false, false, false, false] rfl rfl (any_of HT_.out (by kernel_rfl)) (fun _ _ _ h => h) (Or.inl ⟨by rfl, ?_⟩) ?_ ?_
                rotate_left
                · intro w'
                  go_simp
                  with_reducible rfl
                rotate_left
                · simp only [Act.put, List.setIfInBounds_toArray, List.set_cons_zero, List.set_cons_succ, i64_w, i32_w]
                  rfl
                refine pure_ (i := 26) (N := some 98) (v := ?_) (a' := ?_) #[true, true, true, true, true, true, true, true, true, true, true, true, true, true, true, true, true, true, true, true, true, true, true, true, true, true, true, false, false, false, false, false] rfl rfl (any_of HT_.out (by kernel_rfl)) (fun _ _ _ h => h) (Or.inl ⟨by rfl, ?_⟩) ?_ ?_
                rotate_left
                · intro w'
                  go_simp
                  with_reducible rfl
                rotate_left
                · simp only [Act.put, List.setIfInBounds_toArray, List.set_cons_zero, List.set_cons_succ, i64_w, i32_w]
                  rfl
                refine pure_ (i := 27) (N := some 99) (v := ?_) (a' := ?_) #[true, true, true, true, true, true, true, true, true, true, true, true, true, true, true, true, true, true, true, true, true, true, true, true, true, true, true, true, false, false, false, false] rfl rfl (any_of HT_.out (by kernel_rfl)) (fun _ _ _ h => h) (Or.inl ⟨by rfl, ?_⟩) ?_ ?_
                rotate_left
                · intro w'
                  go_simp
                  with_reducible rfl
                rotate_left
                · simp only [Act.put, List.setIfInBounds_toArray, List.set_cons_zero, List.set_cons_succ, i64_w, i32_w]
                  rfl
                refine pure_ (i := 28) (N := some 100) (v := ?_) (a' := ?_) #[true, true, true, true, true, true, true, true, true, true, true, true, true, true, true, true, true, true, true, true, true, true, true, true, true, true, true, true, true, false, false, false] rfl rfl (any_of HT_.out (by kernel_rfl)) (fun _ _ _ h => h) (Or.inl ⟨by rfl, ?_⟩) ?_ ?_
                rotate_left
                · intro w'
                  go_simp
                  with_reducible rfl
                rotate_left
                · simp only [Act.put, List.setIfInBounds_toArray, List.set_cons_zero, List.set_cons_succ, i64_w, i32_w]
                  rfl
                refine pure_ (i := 29) (N := some 101) (v := ?_) (a' := ?_) #[true, true, true, true, true, true, true, true, true, true, true, true, true, true, true, true, true, true, true, true, true, true, true, true, true, true, true, true, true, true, false, false] rfl rfl (any_of HT_.out (by kernel_rfl)) (fun _ _ _ h => h) (Or.inl ⟨by rfl, ?_⟩) ?_ ?_
                rotate_left
                · intro w'
                  go_simp
                  with_reducible rfl
                rotate_left
                · simp only [Act.put, List.setIfInBounds_toArray, List.set_cons_zero, List.set_cons_succ, i64_w, i32_w]
                  rfl
                refine pure_ (i := 30) (N := some 102) (v := ?_) (a' := ?_) #[true, true, true, true, true, true, true, true, true, true, true, true, true, true, true, true, true, true, true, true, true, true, true, true, true, true, true, true, true, true, true, false] rfl rfl (any_of HT_.out (by kernel_rfl)) (fun _ _ _ h => h) (Or.inl ⟨by rfl, ?_⟩) ?_ ?_
                rotate_left
                · intro w'
                  go_simp
                  with_reducible rfl
                rotate_left
                · simp only [Act.put, List.setIfInBounds_toArray, List.set_cons_zero, List.set_cons_succ, i64_w, i32_w]
                  rfl
                refine pure_ (i := 31) (N := some 103) (v := ?_) (a' := ?_) #[true, true, true, true, true, true, true, true, true, true, true, true, true, true, true, true, true, true, true, true, true, true, true, true, true, true, true, true, true, true, true, true] rfl rfl (any_of HT_.out (by kernel_rfl)) (fun _ _ _ h => h) (Or.inl ⟨by rfl, ?_⟩) ?_ ?_
                rotate_left
                · intro w'
                  go_simp
                  with_reducible rfl
                rotate_left
                · simp only [Act.put, List.setIfInBounds_toArray, List.set_cons_zero, List.set_cons_succ, i64_w, i32_w]
                  rfl
                refine done_ (done_of HT_.out (by kernel_rfl)) ?_
                try go_wp2
                go_meet
                case rel => exact ⟨_, ((t606 != t611)), (by first | rfl | (simp; done) | (simp [*]; done)), H', ⟨by first | omega | exact Nat.le_refl _⟩, ⟨by (with_reducible repeat (first | refine blk_drewN ?_ _ | refine blk_drew ?_ | refine blk_alloc ?_ _)); exact BK574.out⟩, ⟨by (with_reducible repeat (first | refine blk_drewN ?_ _ | refine blk_drew ?_ | refine blk_alloc ?_ _)); exact BK581.out⟩, ⟨by (with_reducible repeat (first | refine blk_drewN ?_ _ | refine blk_drew ?_ | refine blk_alloc ?_ _)); exact BK592.out⟩, ⟨by (with_reducible repeat (first | refine blk_drewN ?_ _ | refine blk_drew ?_ | refine blk_alloc ?_ _)); exact BK601.out⟩, ⟨by (with_reducible repeat (first | refine blk_drewN ?_ _ | refine blk_drew ?_ | refine blk_alloc ?_ _)); exact BK602.out⟩, ⟨by (with_reducible repeat (first | refine blk_drewN ?_ _ | refine blk_drew ?_ | refine blk_alloc ?_ _)); exact BK607.out⟩, ⟨by (with_reducible repeat (first | refine blk_drewN ?_ _ | refine blk_drew ?_ | refine blk_alloc ?_ _)); exact BK612.out⟩, ⟨by repeat (first | (with_reducible first | exact HB.out | apply below_alloc | apply pw_below_drewN | apply below_drew1 | refine below_set ?_ GE574.out | refine below_set ?_ GE581.out | refine below_set ?_ GE592.out | refine below_set ?_ GE601.out | refine below_set ?_ GE602.out | refine below_set ?_ GE607.out | refine below_set ?_ GE612.out) | exact HB.out)⟩⟩
        · rw [if_neg c71] at H
          have c71b0 : (t582.toList == t584.toList) = false := beq_eq_false_iff_ne.mpr c71
          have c71b1 : (t582.toList != t584.toList) = true := bne_iff_ne.mpr c71
          rcases k with _ | kd_
          · exact absurd H (by simp [laws_FnLogs.j0])
          · simp only [laws_FnLogs.j0] at H
            first | (rw [if_pos rfl] at H; exact absurd H (by simp)) | exact absurd H (by simp)
    case rest =>
      clear HC15
      try clear c2
      try clear p2
      try clear c4
      try clear c7
      try clear c20
      try clear c22
      try clear c40
      try clear c41
      try clear c70
      try clear c70b0
      try clear c70b1
      try clear c70b2
      try clear c71
      try clear c71b0
      try clear c71b1
      try clear c72
      try clear c72b0
      try clear c72b1
      try clear c72b2
      try clear c75
      try clear c75b0
      try clear c75b1
      try clear c75b2
      try clear c76
      try clear c76b0
      obtain ⟨kq, x103_14, rfl, HA, HJ14, BK574, BK581, BK592, BK601, BK602, BK607, BK612, HB⟩ := hcut
      cases kq with
      | zero => exact absurd HA.out (by simp [laws_FnLogs.j0])
      | succ kj14 =>
        have H := HA.out
        clear HA
        simp only [laws_FnLogs.j0] at H
        by_cases c83 : x103_14 = true
        · subst c83
          have H1 : (some false) = some true := by first | with_reducible rfl | (rw [if_pos rfl] at H; exact H)
          clear H
          have H := H1
          clear H1
          exact absurd H (by simp)
        · replace c83 := Bool.eq_false_iff.mpr c83
          subst c83
          have H1 : ((impl_SyncLog.f kj14 t596 t597 t598).bind fun bt617 => ((spec_SyncLog.f kj14 t596 t597 t598).bind fun bt622 => ((impl_LogRecords.f kj14 t596 t597 t598).bind fun bt627 => ((spec_LogRecords.f kj14 t596 t597 t598).bind fun bt631 => (if (!(bt617.1.toList == bt622.1.toList) || (!(bt617.2.1.toList == bt622.2.1.toList) || (!(bt617.2.2.1 == bt622.2.2.1)))) = true then (laws_FnLogs.j1 kj14 t606 bt617.2.2.2 bt627.1 true t596 t597 t598 t599 t600 t603 t604 t605 bt617.1 bt617.2.1 bt617.2.2.1) else (if (bt617.2.2.2 != bt622.2.2.2) = true then (laws_FnLogs.j1 kj14 t606 bt617.2.2.2 bt627.1 true t596 t597 t598 t599 t600 t603 t604 t605 bt617.1 bt617.2.1 bt617.2.2.1) else (if (bt627.2 != bt631.2) = true then (laws_FnLogs.j1 kj14 t606 bt617.2.2.2 bt627.1 true t596 t597 t598 t599 t600 t603 t604 t605 bt617.1 bt617.2.1 bt617.2.2.1) else ((laws_vRecords.f kj14 bt627.1 bt631.1).bind fun t635 => (laws_FnLogs.j1 kj14 t606 bt617.2.2.2 bt627.1 (!t635) t596 t597 t598 t599 t600 t603 t604 t605 bt617.1 bt617.2.1 bt617.2.2.1))))))))) = some true := by rw [if_neg (show ¬ (false = true) by decide)] at H; exact H
          clear H
          have H := H1
          clear H1
          replace H := Option.bind_eq_some_iff.mp H
          obtain ⟨⟨t617, t618, t619, t620⟩, A840, H⟩ := H
          dsimp only at H
          have A84 := Aside0.mk A840
          clear A840
          replace H := Option.bind_eq_some_iff.mp H
          obtain ⟨⟨t622, t623, t624, t625⟩, A850, H⟩ := H
          dsimp only at H
          have A85 := Aside0.mk A850
          clear A850
          replace H := Option.bind_eq_some_iff.mp H
          obtain ⟨⟨t627, t630⟩, A860, H⟩ := H
          dsimp only at H
          have A86 := Aside0.mk A860
          clear A860
          replace H := Option.bind_eq_some_iff.mp H
          obtain ⟨⟨t631, t634⟩, A870, H⟩ := H
          dsimp only at H
          have A87 := Aside0.mk A870
          clear A870
          have HC88 := Aside0.mk H
          clear H
          have hnb89 := NB601_574.out
          have hnc89 := NB574_601.out
          have hnb90 := NB601_581.out
          have hnc90 := NB581_601.out
          have hnb91 := NB601_592.out
          have hnc91 := NB592_601.out
          have hnb92 := NB601_602.out
          have hnc92 := NB602_601.out
          have hnb93 := NB601_607.out
          have hnc93 := NB607_601.out
          have hnb94 := NB601_612.out
          have hnc94 := NB612_601.out
          have hcz95_0 : wc.cell? ⟨gb601, 0, none⟩ = some (.string t596) := (blk_cell BK601.out 0).trans rfl
          have hcz95_1 : wc.cell? ⟨gb601, 1, none⟩ = some (.string t597) := (blk_cell BK601.out 1).trans rfl
          have hcz95_2 : wc.cell? ⟨gb601, 2, none⟩ = some (.int .i64 t598) := (blk_cell BK601.out 2).trans rfl
          have hfz95_0 := blk_frozen BK601.out 0
          have hfz95_1 := blk_frozen BK601.out 1
          have hfz95_2 := blk_frozen BK601.out 2
          go_upto_region 17 with (first | ((with_reducible refine gate_callee (f := 26) rfl ?_); refine goesL_ (some 106) rfl rfl Tryd.func26 (by kernel_rfl) rfl #[.agg #[.string t596, .string t597, .int .i64 t598]] rfl (by (try simp only [List.map_toArray, List.map_cons, List.map_nil]); first | done | rfl | (simp only [List.length_drop, List.length_take]; rfl)) ?_; (with_reducible refine (impl_SyncLog.calls kj14 t596 t597 t598 t617 t618 t619 t620 _ ?side1 A84.out).mono ?_); (case side1 => exact GT.below hG_.out (by repeat (first | (with_reducible first | exact HB.out | apply below_alloc | apply pw_below_drewN | apply below_drew1 | refine below_set ?_ GE574.out | refine below_set ?_ GE581.out | refine below_set ?_ GE592.out | refine below_set ?_ GE601.out | refine below_set ?_ GE602.out | refine below_set ?_ GE607.out | refine below_set ?_ GE612.out) | exact HB.out)) (Nat.le_refl _)); rintro e w96 ⟨rfl, hb⟩; refine ⟨_, rfl, ?_⟩; have n0_ := Aside0.mk (blk_below BK574.out hb); have n1_ := Aside0.mk (blk_below BK581.out hb); have n2_ := Aside0.mk (blk_below BK592.out hb); have n3_ := Aside0.mk (blk_below BK601.out hb); have n4_ := Aside0.mk (blk_below BK602.out hb); have n5_ := Aside0.mk (blk_below BK607.out hb); have n6_ := Aside0.mk (blk_below BK612.out hb); have n7_ := Aside0.mk (below_step (by repeat (first | (with_reducible first | exact HB.out | apply below_alloc | apply pw_below_drewN | apply below_drew1 | refine below_set ?_ GE574.out | refine below_set ?_ GE581.out | refine below_set ?_ GE592.out | refine below_set ?_ GE601.out | refine below_set ?_ GE602.out | refine below_set ?_ GE607.out | refine below_set ?_ GE612.out) | exact HB.out)) hb); clear BK574; clear BK581; clear BK592; clear BK601; clear BK602; clear BK607; clear BK612; clear HB; have BK574 := n0_; have BK581 := n1_; have BK592 := n2_; have BK601 := n3_; have BK602 := n4_; have BK607 := n5_; have BK612 := n6_; have HB := n7_; clear n0_ n1_ n2_ n3_ n4_ n5_ n6_ n7_; (try clear hb); (try clear hb2); (try clear hk); (try clear hi)) | ((with_reducible refine gate_dst (N := 17) rfl ?_); (try (refine gate_guard (by rfl) ?_; dsimp only)); refine box_event ?hg (N := 17) ?hd (cs := #[.string (⟨#[]⟩ : ByteArray), .string (⟨#[]⟩ : ByteArray), .int .i64 0]) (t := 31) ?hr ?_; (case hd => rfl); (case hg => rfl); (case hr => first | (go_simp; done) | (go_simp; rfl)); intro gb621 hg w97 hbox hb; have n0_ := Aside0.mk (blk_below BK574.out hb); have n1_ := Aside0.mk (blk_below BK581.out hb); have n2_ := Aside0.mk (blk_below BK592.out hb); have n3_ := Aside0.mk (blk_below BK601.out hb); have n4_ := Aside0.mk (blk_below BK602.out hb); have n5_ := Aside0.mk (blk_below BK607.out hb); have n6_ := Aside0.mk (blk_below BK612.out hb); have n7_ := Aside0.mk (below_step (by repeat (first | (with_reducible first | exact HB.out | apply below_alloc | apply pw_below_drewN | apply below_drew1 | refine below_set ?_ GE574.out | refine below_set ?_ GE581.out | refine below_set ?_ GE592.out | refine below_set ?_ GE601.out | refine below_set ?_ GE602.out | refine below_set ?_ GE607.out | refine below_set ?_ GE612.out) | exact HB.out)) hb); have n8_ := Aside0.mk (hbox); have n9_ := Aside0.mk ((by rw [hg]; exact (below_size (by repeat (first | (with_reducible first | exact HB.out | apply below_alloc | apply pw_below_drewN | apply below_drew1 | refine below_set ?_ GE574.out | refine below_set ?_ GE581.out | refine below_set ?_ GE592.out | refine below_set ?_ GE601.out | refine below_set ?_ GE602.out | refine below_set ?_ GE607.out | refine below_set ?_ GE612.out) | exact HB.out))) : w.heap.size ≤ gb621)); have n10_ := Aside0.mk ((by rw [hg]; exact (below_size (by repeat (first | (with_reducible first | exact HB.out | apply below_alloc | apply pw_below_drewN | apply below_drew1 | refine below_set ?_ GE574.out | refine below_set ?_ GE581.out | refine below_set ?_ GE592.out | refine below_set ?_ GE601.out | refine below_set ?_ GE602.out | refine below_set ?_ GE607.out | refine below_set ?_ GE612.out) | exact HB.out))) : w.heap.size ≤ gb621)); have n11_ := Aside0.mk ((by rw [hg]; exact Nat.ne_of_lt (blk_lt (g := gb574) (o := .cells #[.string t572, .string t573] 27 (0, 0)) (by (with_reducible repeat (first | refine blk_drewN ?_ _ | refine blk_drew ?_ | refine blk_alloc ?_ _)); exact BK574.out)) : gb574 ≠ gb621)); have n12_ := Aside0.mk ((by rw [hg]; exact Nat.ne_of_gt (blk_lt (g := gb574) (o := .cells #[.string t572, .string t573] 27 (0, 0)) (by (with_reducible repeat (first | refine blk_drewN ?_ _ | refine blk_drew ?_ | refine blk_alloc ?_ _)); exact BK574.out)) : gb621 ≠ gb574)); have n13_ := Aside0.mk ((by rw [hg]; exact Nat.ne_of_lt (blk_lt (g := gb581) (o := .cells #[.string t579, .string t580] 27 (0, 0)) (by (with_reducible repeat (first | refine blk_drewN ?_ _ | refine blk_drew ?_ | refine blk_alloc ?_ _)); exact BK581.out)) : gb581 ≠ gb621)); have n14_ := Aside0.mk ((by rw [hg]; exact Nat.ne_of_gt (blk_lt (g := gb581) (o := .cells #[.string t579, .string t580] 27 (0, 0)) (by (with_reducible repeat (first | refine blk_drewN ?_ _ | refine blk_drew ?_ | refine blk_alloc ?_ _)); exact BK581.out)) : gb621 ≠ gb581)); have n15_ := Aside0.mk ((by rw [hg]; exact Nat.ne_of_lt (blk_lt (g := gb592) (o := .cells #[.string t589, .string t590, .int .i64 t591] 31 (0, 0)) (by (with_reducible repeat (first | refine blk_drewN ?_ _ | refine blk_drew ?_ | refine blk_alloc ?_ _)); exact BK592.out)) : gb592 ≠ gb621)); have n16_ := Aside0.mk ((by rw [hg]; exact Nat.ne_of_gt (blk_lt (g := gb592) (o := .cells #[.string t589, .string t590, .int .i64 t591] 31 (0, 0)) (by (with_reducible repeat (first | refine blk_drewN ?_ _ | refine blk_drew ?_ | refine blk_alloc ?_ _)); exact BK592.out)) : gb621 ≠ gb592)); have n17_ := Aside0.mk ((by rw [hg]; exact Nat.ne_of_lt (blk_lt (g := gb601) (o := .cells #[.string t596, .string t597, .int .i64 t598] 31 (0, 0)) (by (with_reducible repeat (first | refine blk_drewN ?_ _ | refine blk_drew ?_ | refine blk_alloc ?_ _)); exact BK601.out)) : gb601 ≠ gb621)); have n18_ := Aside0.mk ((by rw [hg]; exact Nat.ne_of_gt (blk_lt (g := gb601) (o := .cells #[.string t596, .string t597, .int .i64 t598] 31 (0, 0)) (by (with_reducible repeat (first | refine blk_drewN ?_ _ | refine blk_drew ?_ | refine blk_alloc ?_ _)); exact BK601.out)) : gb621 ≠ gb601)); have n19_ := Aside0.mk ((by rw [hg]; exact Nat.ne_of_lt (blk_lt (g := gb602) (o := .cells #[.string t599, .string t600] 27 (0, 0)) (by (with_reducible repeat (first | refine blk_drewN ?_ _ | refine blk_drew ?_ | refine blk_alloc ?_ _)); exact BK602.out)) : gb602 ≠ gb621)); have n20_ := Aside0.mk ((by rw [hg]; exact Nat.ne_of_gt (blk_lt (g := gb602) (o := .cells #[.string t599, .string t600] 27 (0, 0)) (by (with_reducible repeat (first | refine blk_drewN ?_ _ | refine blk_drew ?_ | refine blk_alloc ?_ _)); exact BK602.out)) : gb621 ≠ gb602)); have n21_ := Aside0.mk ((by rw [hg]; exact Nat.ne_of_lt (blk_lt (g := gb607) (o := .cells #[.string t603, .string t604, .int .i64 t605] 31 (0, 0)) (by (with_reducible repeat (first | refine blk_drewN ?_ _ | refine blk_drew ?_ | refine blk_alloc ?_ _)); exact BK607.out)) : gb607 ≠ gb621)); have n22_ := Aside0.mk ((by rw [hg]; exact Nat.ne_of_gt (blk_lt (g := gb607) (o := .cells #[.string t603, .string t604, .int .i64 t605] 31 (0, 0)) (by (with_reducible repeat (first | refine blk_drewN ?_ _ | refine blk_drew ?_ | refine blk_alloc ?_ _)); exact BK607.out)) : gb621 ≠ gb607)); have n23_ := Aside0.mk ((by rw [hg]; exact Nat.ne_of_lt (blk_lt (g := gb612) (o := .cells #[.string t608, .string t609, .int .i64 t610] 31 (0, 0)) (by (with_reducible repeat (first | refine blk_drewN ?_ _ | refine blk_drew ?_ | refine blk_alloc ?_ _)); exact BK612.out)) : gb612 ≠ gb621)); have n24_ := Aside0.mk ((by rw [hg]; exact Nat.ne_of_gt (blk_lt (g := gb612) (o := .cells #[.string t608, .string t609, .int .i64 t610] 31 (0, 0)) (by (with_reducible repeat (first | refine blk_drewN ?_ _ | refine blk_drew ?_ | refine blk_alloc ?_ _)); exact BK612.out)) : gb621 ≠ gb612)); clear BK574; clear BK581; clear BK592; clear BK601; clear BK602; clear BK607; clear BK612; clear HB; have BK574 := n0_; have BK581 := n1_; have BK592 := n2_; have BK601 := n3_; have BK602 := n4_; have BK607 := n5_; have BK612 := n6_; have HB := n7_; have BK621 := n8_; have GW621 := n9_; have GE621 := n10_; have NB574_621 := n11_; have NB621_574 := n12_; have NB581_621 := n13_; have NB621_581 := n14_; have NB592_621 := n15_; have NB621_592 := n16_; have NB601_621 := n17_; have NB621_601 := n18_; have NB602_621 := n19_; have NB621_602 := n20_; have NB607_621 := n21_; have NB621_607 := n22_; have NB612_621 := n23_; have NB621_612 := n24_; clear n0_ n1_ n2_ n3_ n4_ n5_ n6_ n7_ n8_ n9_ n10_ n11_ n12_ n13_ n14_ n15_ n16_ n17_ n18_ n19_ n20_ n21_ n22_ n23_ n24_; clear hb hbox hg; have hnb98 := NB621_574.out; have hnc98 := NB574_621.out; have hnb99 := NB621_581.out; have hnc99 := NB581_621.out; have hnb100 := NB621_592.out; have hnc100 := NB592_621.out; have hnb101 := NB621_601.out; have hnc101 := NB601_621.out; have hnb102 := NB621_602.out; have hnc102 := NB602_621.out; have hnb103 := NB621_607.out; have hnc103 := NB607_621.out; have hnb104 := NB621_612.out; have hnc104 := NB612_621.out; have hcz105_0 : w97.cell? ⟨gb621, 0, none⟩ = some (.string (⟨#[]⟩ : ByteArray)) := (blk_cell BK621.out 0).trans rfl; have hcz105_1 : w97.cell? ⟨gb621, 1, none⟩ = some (.string (⟨#[]⟩ : ByteArray)) := (blk_cell BK621.out 1).trans rfl; have hcz105_2 : w97.cell? ⟨gb621, 2, none⟩ = some (.int .i64 0) := (blk_cell BK621.out 2).trans rfl; have hfz105_0 := blk_frozen BK621.out 0; have hfz105_1 := blk_frozen BK621.out 1; have hfz105_2 := blk_frozen BK621.out 2; have hcz106_0 : w97.cell? ⟨gb601, 0, none⟩ = some (.string t596) := (blk_cell BK601.out 0).trans rfl; have hcz106_1 : w97.cell? ⟨gb601, 1, none⟩ = some (.string t597) := (blk_cell BK601.out 1).trans rfl; have hcz106_2 : w97.cell? ⟨gb601, 2, none⟩ = some (.int .i64 t598) := (blk_cell BK601.out 2).trans rfl; have hfz106_0 := blk_frozen BK601.out 0; have hfz106_1 := blk_frozen BK601.out 1; have hfz106_2 := blk_frozen BK601.out 2) | ((with_reducible refine gate_callee (f := 25) rfl ?_); refine goesL_ (some 111) rfl rfl Tryd.func25 (by kernel_rfl) rfl #[.agg #[.string t596, .string t597, .int .i64 t598]] rfl (by (try simp only [List.map_toArray, List.map_cons, List.map_nil]); first | done | rfl | (simp only [List.length_drop, List.length_take]; rfl)) ?_; (with_reducible refine (spec_SyncLog.calls kj14 t596 t597 t598 t622 t623 t624 t625 _ A85.out).mono ?_); rintro e w107 ⟨rfl, hb⟩; refine ⟨_, rfl, ?_⟩; have n0_ := Aside0.mk (blk_below (g := gb574) (o := .cells #[.string t572, .string t573] 27 (0, 0)) (by (with_reducible repeat (first | refine blk_drewN ?_ _ | refine blk_drew ?_ | refine blk_alloc ?_ _)); refine blk_far ?_ NB574_621.out _; (with_reducible repeat (first | refine blk_drewN ?_ _ | refine blk_drew ?_ | refine blk_alloc ?_ _)); refine blk_far ?_ NB574_621.out _; (with_reducible repeat (first | refine blk_drewN ?_ _ | refine blk_drew ?_ | refine blk_alloc ?_ _)); refine blk_far ?_ NB574_621.out _; (with_reducible repeat (first | refine blk_drewN ?_ _ | refine blk_drew ?_ | refine blk_alloc ?_ _)); exact BK574.out) hb); have n1_ := Aside0.mk (blk_below (g := gb581) (o := .cells #[.string t579, .string t580] 27 (0, 0)) (by (with_reducible repeat (first | refine blk_drewN ?_ _ | refine blk_drew ?_ | refine blk_alloc ?_ _)); refine blk_far ?_ NB581_621.out _; (with_reducible repeat (first | refine blk_drewN ?_ _ | refine blk_drew ?_ | refine blk_alloc ?_ _)); refine blk_far ?_ NB581_621.out _; (with_reducible repeat (first | refine blk_drewN ?_ _ | refine blk_drew ?_ | refine blk_alloc ?_ _)); refine blk_far ?_ NB581_621.out _; (with_reducible repeat (first | refine blk_drewN ?_ _ | refine blk_drew ?_ | refine blk_alloc ?_ _)); exact BK581.out) hb); have n2_ := Aside0.mk (blk_below (g := gb592) (o := .cells #[.string t589, .string t590, .int .i64 t591] 31 (0, 0)) (by (with_reducible repeat (first | refine blk_drewN ?_ _ | refine blk_drew ?_ | refine blk_alloc ?_ _)); refine blk_far ?_ NB592_621.out _; (with_reducible repeat (first | refine blk_drewN ?_ _ | refine blk_drew ?_ | refine blk_alloc ?_ _)); refine blk_far ?_ NB592_621.out _; (with_reducible repeat (first | refine blk_drewN ?_ _ | refine blk_drew ?_ | refine blk_alloc ?_ _)); refine blk_far ?_ NB592_621.out _; (with_reducible repeat (first | refine blk_drewN ?_ _ | refine blk_drew ?_ | refine blk_alloc ?_ _)); exact BK592.out) hb); have n3_ := Aside0.mk (blk_below (g := gb601) (o := .cells #[.string t596, .string t597, .int .i64 t598] 31 (0, 0)) (by (with_reducible repeat (first | refine blk_drewN ?_ _ | refine blk_drew ?_ | refine blk_alloc ?_ _)); refine blk_far ?_ NB601_621.out _; (with_reducible repeat (first | refine blk_drewN ?_ _ | refine blk_drew ?_ | refine blk_alloc ?_ _)); refine blk_far ?_ NB601_621.out _; (with_reducible repeat (first | refine blk_drewN ?_ _ | refine blk_drew ?_ | refine blk_alloc ?_ _)); refine blk_far ?_ NB601_621.out _; (with_reducible repeat (first | refine blk_drewN ?_ _ | refine blk_drew ?_ | refine blk_alloc ?_ _)); exact BK601.out) hb); have n4_ := Aside0.mk (blk_below (g := gb602) (o := .cells #[.string t599, .string t600] 27 (0, 0)) (by (with_reducible repeat (first | refine blk_drewN ?_ _ | refine blk_drew ?_ | refine blk_alloc ?_ _)); refine blk_far ?_ NB602_621.out _; (with_reducible repeat (first | refine blk_drewN ?_ _ | refine blk_drew ?_ | refine blk_alloc ?_ _)); refine blk_far ?_ NB602_621.out _; (with_reducible repeat (first | refine blk_drewN ?_ _ | refine blk_drew ?_ | refine blk_alloc ?_ _)); refine blk_far ?_ NB602_621.out _; (with_reducible repeat (first | refine blk_drewN ?_ _ | refine blk_drew ?_ | refine blk_alloc ?_ _)); exact BK602.out) hb); have n5_ := Aside0.mk (blk_below (g := gb607) (o := .cells #[.string t603, .string t604, .int .i64 t605] 31 (0, 0)) (by (with_reducible repeat (first | refine blk_drewN ?_ _ | refine blk_drew ?_ | refine blk_alloc ?_ _)); refine blk_far ?_ NB607_621.out _; (with_reducible repeat (first | refine blk_drewN ?_ _ | refine blk_drew ?_ | refine blk_alloc ?_ _)); refine blk_far ?_ NB607_621.out _; (with_reducible repeat (first | refine blk_drewN ?_ _ | refine blk_drew ?_ | refine blk_alloc ?_ _)); refine blk_far ?_ NB607_621.out _; (with_reducible repeat (first | refine blk_drewN ?_ _ | refine blk_drew ?_ | refine blk_alloc ?_ _)); exact BK607.out) hb); have n6_ := Aside0.mk (blk_below (g := gb612) (o := .cells #[.string t608, .string t609, .int .i64 t610] 31 (0, 0)) (by (with_reducible repeat (first | refine blk_drewN ?_ _ | refine blk_drew ?_ | refine blk_alloc ?_ _)); refine blk_far ?_ NB612_621.out _; (with_reducible repeat (first | refine blk_drewN ?_ _ | refine blk_drew ?_ | refine blk_alloc ?_ _)); refine blk_far ?_ NB612_621.out _; (with_reducible repeat (first | refine blk_drewN ?_ _ | refine blk_drew ?_ | refine blk_alloc ?_ _)); refine blk_far ?_ NB612_621.out _; (with_reducible repeat (first | refine blk_drewN ?_ _ | refine blk_drew ?_ | refine blk_alloc ?_ _)); exact BK612.out) hb); have n7_ := Aside0.mk (blk_below (g := gb621) (o := .cells #[.string t617, .string t618, .int .i64 t619] 31 (0, 0)) (by (with_reducible repeat (first | refine blk_drewN ?_ _ | refine blk_drew ?_ | refine blk_alloc ?_ _)); refine blk_put (cs := #[.string t617, .string t618, .int .i64 0]) ?_ 2 _ rfl; (with_reducible repeat (first | refine blk_drewN ?_ _ | refine blk_drew ?_ | refine blk_alloc ?_ _)); refine blk_put (cs := #[.string t617, .string (⟨#[]⟩ : ByteArray), .int .i64 0]) ?_ 1 _ rfl; (with_reducible repeat (first | refine blk_drewN ?_ _ | refine blk_drew ?_ | refine blk_alloc ?_ _)); refine blk_put (cs := #[.string (⟨#[]⟩ : ByteArray), .string (⟨#[]⟩ : ByteArray), .int .i64 0]) ?_ 0 _ rfl; (with_reducible repeat (first | refine blk_drewN ?_ _ | refine blk_drew ?_ | refine blk_alloc ?_ _)); exact BK621.out) hb); have n8_ := Aside0.mk (below_step (by repeat (first | (with_reducible first | exact HB.out | apply below_alloc | apply pw_below_drewN | apply below_drew1 | refine below_set ?_ GE574.out | refine below_set ?_ GE581.out | refine below_set ?_ GE592.out | refine below_set ?_ GE601.out | refine below_set ?_ GE602.out | refine below_set ?_ GE607.out | refine below_set ?_ GE612.out | refine below_set ?_ GE621.out) | exact HB.out)) hb); clear BK574; clear BK581; clear BK592; clear BK601; clear BK602; clear BK607; clear BK612; clear BK621; clear HB; have BK574 := n0_; have BK581 := n1_; have BK592 := n2_; have BK601 := n3_; have BK602 := n4_; have BK607 := n5_; have BK612 := n6_; have BK621 := n7_; have HB := n8_; clear n0_ n1_ n2_ n3_ n4_ n5_ n6_ n7_ n8_; (try clear hb); (try clear hb2); (try clear hk); (try clear hi)) | ((with_reducible refine gate_dst (N := 19) rfl ?_); (try (refine gate_guard (by rfl) ?_; dsimp only)); refine box_event ?hg (N := 19) ?hd (cs := #[.string (⟨#[]⟩ : ByteArray), .string (⟨#[]⟩ : ByteArray), .int .i64 0]) (t := 31) ?hr ?_; (case hd => rfl); (case hg => rfl); (case hr => first | (go_simp; done) | (go_simp; rfl)); intro gb626 hg w108 hbox hb; have n0_ := Aside0.mk (blk_below BK574.out hb); have n1_ := Aside0.mk (blk_below BK581.out hb); have n2_ := Aside0.mk (blk_below BK592.out hb); have n3_ := Aside0.mk (blk_below BK601.out hb); have n4_ := Aside0.mk (blk_below BK602.out hb); have n5_ := Aside0.mk (blk_below BK607.out hb); have n6_ := Aside0.mk (blk_below BK612.out hb); have n7_ := Aside0.mk (blk_below BK621.out hb); have n8_ := Aside0.mk (below_step (by repeat (first | (with_reducible first | exact HB.out | apply below_alloc | apply pw_below_drewN | apply below_drew1 | refine below_set ?_ GE574.out | refine below_set ?_ GE581.out | refine below_set ?_ GE592.out | refine below_set ?_ GE601.out | refine below_set ?_ GE602.out | refine below_set ?_ GE607.out | refine below_set ?_ GE612.out | refine below_set ?_ GE621.out) | exact HB.out)) hb); have n9_ := Aside0.mk (hbox); have n10_ := Aside0.mk ((by rw [hg]; exact (below_size (by repeat (first | (with_reducible first | exact HB.out | apply below_alloc | apply pw_below_drewN | apply below_drew1 | refine below_set ?_ GE574.out | refine below_set ?_ GE581.out | refine below_set ?_ GE592.out | refine below_set ?_ GE601.out | refine below_set ?_ GE602.out | refine below_set ?_ GE607.out | refine below_set ?_ GE612.out | refine below_set ?_ GE621.out) | exact HB.out))) : w.heap.size ≤ gb626)); have n11_ := Aside0.mk ((by rw [hg]; exact (below_size (by repeat (first | (with_reducible first | exact HB.out | apply below_alloc | apply pw_below_drewN | apply below_drew1 | refine below_set ?_ GE574.out | refine below_set ?_ GE581.out | refine below_set ?_ GE592.out | refine below_set ?_ GE601.out | refine below_set ?_ GE602.out | refine below_set ?_ GE607.out | refine below_set ?_ GE612.out | refine below_set ?_ GE621.out) | exact HB.out))) : w.heap.size ≤ gb626)); have n12_ := Aside0.mk ((by rw [hg]; exact Nat.ne_of_lt (blk_lt (g := gb574) (o := .cells #[.string t572, .string t573] 27 (0, 0)) (by (with_reducible repeat (first | refine blk_drewN ?_ _ | refine blk_drew ?_ | refine blk_alloc ?_ _)); exact BK574.out)) : gb574 ≠ gb626)); have n13_ := Aside0.mk ((by rw [hg]; exact Nat.ne_of_gt (blk_lt (g := gb574) (o := .cells #[.string t572, .string t573] 27 (0, 0)) (by (with_reducible repeat (first | refine blk_drewN ?_ _ | refine blk_drew ?_ | refine blk_alloc ?_ _)); exact BK574.out)) : gb626 ≠ gb574)); have n14_ := Aside0.mk ((by rw [hg]; exact Nat.ne_of_lt (blk_lt (g := gb581) (o := .cells #[.string t579, .string t580] 27 (0, 0)) (by (with_reducible repeat (first | refine blk_drewN ?_ _ | refine blk_drew ?_ | refine blk_alloc ?_ _)); exact BK581.out)) : gb581 ≠ gb626)); have n15_ := Aside0.mk ((by rw [hg]; exact Nat.ne_of_gt (blk_lt (g := gb581) (o := .cells #[.string t579, .string t580] 27 (0, 0)) (by (with_reducible repeat (first | refine blk_drewN ?_ _ | refine blk_drew ?_ | refine blk_alloc ?_ _)); exact BK581.out)) : gb626 ≠ gb581)); have n16_ := Aside0.mk ((by rw [hg]; exact Nat.ne_of_lt (blk_lt (g := gb592) (o := .cells #[.string t589, .string t590, .int .i64 t591] 31 (0, 0)) (by (with_reducible repeat (first | refine blk_drewN ?_ _ | refine blk_drew ?_ | refine blk_alloc ?_ _)); exact BK592.out)) : gb592 ≠ gb626)); have n17_ := Aside0.mk ((by rw [hg]; exact Nat.ne_of_gt (blk_lt (g := gb592) (o := .cells #[.string t589, .string t590, .int .i64 t591] 31 (0, 0)) (by (with_reducible repeat (first | refine blk_drewN ?_ _ | refine blk_drew ?_ | refine blk_alloc ?_ _)); exact BK592.out)) : gb626 ≠ gb592)); have n18_ := Aside0.mk ((by rw [hg]; exact Nat.ne_of_lt (blk_lt (g := gb601) (o := .cells #[.string t596, .string t597, .int .i64 t598] 31 (0, 0)) (by (with_reducible repeat (first | refine blk_drewN ?_ _ | refine blk_drew ?_ | refine blk_alloc ?_ _)); exact BK601.out)) : gb601 ≠ gb626)); have n19_ := Aside0.mk ((by rw [hg]; exact Nat.ne_of_gt (blk_lt (g := gb601) (o := .cells #[.string t596, .string t597, .int .i64 t598] 31 (0, 0)) (by (with_reducible repeat (first | refine blk_drewN ?_ _ | refine blk_drew ?_ | refine blk_alloc ?_ _)); exact BK601.out)) : gb626 ≠ gb601)); have n20_ := Aside0.mk ((by rw [hg]; exact Nat.ne_of_lt (blk_lt (g := gb602) (o := .cells #[.string t599, .string t600] 27 (0, 0)) (by (with_reducible repeat (first | refine blk_drewN ?_ _ | refine blk_drew ?_ | refine blk_alloc ?_ _)); exact BK602.out)) : gb602 ≠ gb626)); have n21_ := Aside0.mk ((by rw [hg]; exact Nat.ne_of_gt (blk_lt (g := gb602) (o := .cells #[.string t599, .string t600] 27 (0, 0)) (by (with_reducible repeat (first | refine blk_drewN ?_ _ | refine blk_drew ?_ | refine blk_alloc ?_ _)); exact BK602.out)) : gb626 ≠ gb602)); have n22_ := Aside0.mk ((by rw [hg]; exact Nat.ne_of_lt (blk_lt (g := gb607) (o := .cells #[.string t603, .string t604, .int .i64 t605] 31 (0, 0)) (by (with_reducible repeat (first | refine blk_drewN ?_ _ | refine blk_drew ?_ | refine blk_alloc ?_ _)); exact BK607.out)) : gb607 ≠ gb626)); have n23_ := Aside0.mk ((by rw [hg]; exact Nat.ne_of_gt (blk_lt (g := gb607) (o := .cells #[.string t603, .string t604, .int .i64 t605] 31 (0, 0)) (by (with_reducible repeat (first | refine blk_drewN ?_ _ | refine blk_drew ?_ | refine blk_alloc ?_ _)); exact BK607.out)) : gb626 ≠ gb607)); have n24_ := Aside0.mk ((by rw [hg]; exact Nat.ne_of_lt (blk_lt (g := gb612) (o := .cells #[.string t608, .string t609, .int .i64 t610] 31 (0, 0)) (by (with_reducible repeat (first | refine blk_drewN ?_ _ | refine blk_drew ?_ | refine blk_alloc ?_ _)); exact BK612.out)) : gb612 ≠ gb626)); have n25_ := Aside0.mk ((by rw [hg]; exact Nat.ne_of_gt (blk_lt (g := gb612) (o := .cells #[.string t608, .string t609, .int .i64 t610] 31 (0, 0)) (by (with_reducible repeat (first | refine blk_drewN ?_ _ | refine blk_drew ?_ | refine blk_alloc ?_ _)); exact BK612.out)) : gb626 ≠ gb612)); have n26_ := Aside0.mk ((by rw [hg]; exact Nat.ne_of_lt (blk_lt (g := gb621) (o := .cells #[.string t617, .string t618, .int .i64 t619] 31 (0, 0)) (by (with_reducible repeat (first | refine blk_drewN ?_ _ | refine blk_drew ?_ | refine blk_alloc ?_ _)); exact BK621.out)) : gb621 ≠ gb626)); have n27_ := Aside0.mk ((by rw [hg]; exact Nat.ne_of_gt (blk_lt (g := gb621) (o := .cells #[.string t617, .string t618, .int .i64 t619] 31 (0, 0)) (by (with_reducible repeat (first | refine blk_drewN ?_ _ | refine blk_drew ?_ | refine blk_alloc ?_ _)); exact BK621.out)) : gb626 ≠ gb621)); clear BK574; clear BK581; clear BK592; clear BK601; clear BK602; clear BK607; clear BK612; clear BK621; clear HB; have BK574 := n0_; have BK581 := n1_; have BK592 := n2_; have BK601 := n3_; have BK602 := n4_; have BK607 := n5_; have BK612 := n6_; have BK621 := n7_; have HB := n8_; have BK626 := n9_; have GW626 := n10_; have GE626 := n11_; have NB574_626 := n12_; have NB626_574 := n13_; have NB581_626 := n14_; have NB626_581 := n15_; have NB592_626 := n16_; have NB626_592 := n17_; have NB601_626 := n18_; have NB626_601 := n19_; have NB602_626 := n20_; have NB626_602 := n21_; have NB607_626 := n22_; have NB626_607 := n23_; have NB612_626 := n24_; have NB626_612 := n25_; have NB621_626 := n26_; have NB626_621 := n27_; clear n0_ n1_ n2_ n3_ n4_ n5_ n6_ n7_ n8_ n9_ n10_ n11_ n12_ n13_ n14_ n15_ n16_ n17_ n18_ n19_ n20_ n21_ n22_ n23_ n24_ n25_ n26_ n27_; clear hb hbox hg; have hnb109 := NB626_574.out; have hnc109 := NB574_626.out; have hnb110 := NB626_581.out; have hnc110 := NB581_626.out; have hnb111 := NB626_592.out; have hnc111 := NB592_626.out; have hnb112 := NB626_601.out; have hnc112 := NB601_626.out; have hnb113 := NB626_602.out; have hnc113 := NB602_626.out; have hnb114 := NB626_607.out; have hnc114 := NB607_626.out; have hnb115 := NB626_612.out; have hnc115 := NB612_626.out; have hnb116 := NB626_621.out; have hnc116 := NB621_626.out; have hcz117_0 : w108.cell? ⟨gb626, 0, none⟩ = some (.string (⟨#[]⟩ : ByteArray)) := (blk_cell BK626.out 0).trans rfl; have hcz117_1 : w108.cell? ⟨gb626, 1, none⟩ = some (.string (⟨#[]⟩ : ByteArray)) := (blk_cell BK626.out 1).trans rfl; have hcz117_2 : w108.cell? ⟨gb626, 2, none⟩ = some (.int .i64 0) := (blk_cell BK626.out 2).trans rfl; have hfz117_0 := blk_frozen BK626.out 0; have hfz117_1 := blk_frozen BK626.out 1; have hfz117_2 := blk_frozen BK626.out 2; have hcz118_0 : w108.cell? ⟨gb601, 0, none⟩ = some (.string t596) := (blk_cell BK601.out 0).trans rfl; have hcz118_1 : w108.cell? ⟨gb601, 1, none⟩ = some (.string t597) := (blk_cell BK601.out 1).trans rfl; have hcz118_2 : w108.cell? ⟨gb601, 2, none⟩ = some (.int .i64 t598) := (blk_cell BK601.out 2).trans rfl; have hfz118_0 := blk_frozen BK601.out 0; have hfz118_1 := blk_frozen BK601.out 1; have hfz118_2 := blk_frozen BK601.out 2) | ((with_reducible refine gate_callee (f := 30) rfl ?_); refine goesL_ (some 116) rfl rfl Tryd.func30 (by kernel_rfl) rfl #[.agg #[.string t596, .string t597, .int .i64 t598]] rfl (by (try simp only [List.map_toArray, List.map_cons, List.map_nil]); first | done | rfl | (simp only [List.length_drop, List.length_take]; rfl)) ?_; (with_reducible refine (impl_LogRecords.calls kj14 t596 t597 t598 t627 t630 _ ?side1 A86.out).mono ?_); (case side1 => exact GT.below hG_.out (by repeat (first | (with_reducible first | exact HB.out | apply below_alloc | apply pw_below_drewN | apply below_drew1 | refine below_set ?_ GE574.out | refine below_set ?_ GE581.out | refine below_set ?_ GE592.out | refine below_set ?_ GE601.out | refine below_set ?_ GE602.out | refine below_set ?_ GE607.out | refine below_set ?_ GE612.out | refine below_set ?_ GE621.out | refine below_set ?_ GE626.out) | exact HB.out)) (Nat.le_refl _)); rintro e w119 ⟨v628, rfl, ho0, hb⟩; refine ⟨_, rfl, ?_⟩; have n0_ := Aside0.mk (Kd.R_lower (Kd.R_newB (Kd.R_newB (Kd.R_newB ho0 (g := gb574) (o := .cells #[.string t572, .string t573] 27 (0, 0)) (by (with_reducible repeat (first | refine blk_drewN ?_ _ | refine blk_drew ?_ | refine blk_alloc ?_ _)); refine blk_far ?_ NB574_626.out _; (with_reducible repeat (first | refine blk_drewN ?_ _ | refine blk_drew ?_ | refine blk_alloc ?_ _)); refine blk_far ?_ NB574_626.out _; (with_reducible repeat (first | refine blk_drewN ?_ _ | refine blk_drew ?_ | refine blk_alloc ?_ _)); refine blk_far ?_ NB574_626.out _; (with_reducible repeat (first | refine blk_drewN ?_ _ | refine blk_drew ?_ | refine blk_alloc ?_ _)); exact BK574.out)) (g := gb581) (o := .cells #[.string t579, .string t580] 27 (0, 0)) (by (with_reducible repeat (first | refine blk_drewN ?_ _ | refine blk_drew ?_ | refine blk_alloc ?_ _)); refine blk_far ?_ NB581_626.out _; (with_reducible repeat (first | refine blk_drewN ?_ _ | refine blk_drew ?_ | refine blk_alloc ?_ _)); refine blk_far ?_ NB581_626.out _; (with_reducible repeat (first | refine blk_drewN ?_ _ | refine blk_drew ?_ | refine blk_alloc ?_ _)); refine blk_far ?_ NB581_626.out _; (with_reducible repeat (first | refine blk_drewN ?_ _ | refine blk_drew ?_ | refine blk_alloc ?_ _)); exact BK581.out)) (g := gb602) (o := .cells #[.string t599, .string t600] 27 (0, 0)) (by (with_reducible repeat (first | refine blk_drewN ?_ _ | refine blk_drew ?_ | refine blk_alloc ?_ _)); refine blk_far ?_ NB602_626.out _; (with_reducible repeat (first | refine blk_drewN ?_ _ | refine blk_drew ?_ | refine blk_alloc ?_ _)); refine blk_far ?_ NB602_626.out _; (with_reducible repeat (first | refine blk_drewN ?_ _ | refine blk_drew ?_ | refine blk_alloc ?_ _)); refine blk_far ?_ NB602_626.out _; (with_reducible repeat (first | refine blk_drewN ?_ _ | refine blk_drew ?_ | refine blk_alloc ?_ _)); exact BK602.out)) (below_size (by repeat (first | (with_reducible first | exact HB.out | apply below_alloc | apply pw_below_drewN | apply below_drew1 | refine below_set ?_ GE574.out | refine below_set ?_ GE581.out | refine below_set ?_ GE592.out | refine below_set ?_ GE601.out | refine below_set ?_ GE602.out | refine below_set ?_ GE607.out | refine below_set ?_ GE612.out | refine below_set ?_ GE621.out | refine below_set ?_ GE626.out) | exact HB.out)))); have n1_ := Aside0.mk (blk_below (g := gb574) (o := .cells #[.string t572, .string t573] 27 (0, 0)) (by (with_reducible repeat (first | refine blk_drewN ?_ _ | refine blk_drew ?_ | refine blk_alloc ?_ _)); refine blk_far ?_ NB574_626.out _; (with_reducible repeat (first | refine blk_drewN ?_ _ | refine blk_drew ?_ | refine blk_alloc ?_ _)); refine blk_far ?_ NB574_626.out _; (with_reducible repeat (first | refine blk_drewN ?_ _ | refine blk_drew ?_ | refine blk_alloc ?_ _)); refine blk_far ?_ NB574_626.out _; (with_reducible repeat (first | refine blk_drewN ?_ _ | refine blk_drew ?_ | refine blk_alloc ?_ _)); exact BK574.out) hb); have n2_ := Aside0.mk (blk_below (g := gb581) (o := .cells #[.string t579, .string t580] 27 (0, 0)) (by (with_reducible repeat (first | refine blk_drewN ?_ _ | refine blk_drew ?_ | refine blk_alloc ?_ _)); refine blk_far ?_ NB581_626.out _; (with_reducible repeat (first | refine blk_drewN ?_ _ | refine blk_drew ?_ | refine blk_alloc ?_ _)); refine blk_far ?_ NB581_626.out _; (with_reducible repeat (first | refine blk_drewN ?_ _ | refine blk_drew ?_ | refine blk_alloc ?_ _)); refine blk_far ?_ NB581_626.out _; (with_reducible repeat (first | refine blk_drewN ?_ _ | refine blk_drew ?_ | refine blk_alloc ?_ _)); exact BK581.out) hb); have n3_ := Aside0.mk (blk_below (g := gb592) (o := .cells #[.string t589, .string t590, .int .i64 t591] 31 (0, 0)) (by (with_reducible repeat (first | refine blk_drewN ?_ _ | refine blk_drew ?_ | refine blk_alloc ?_ _)); refine blk_far ?_ NB592_626.out _; (with_reducible repeat (first | refine blk_drewN ?_ _ | refine blk_drew ?_ | refine blk_alloc ?_ _)); refine blk_far ?_ NB592_626.out _; (with_reducible repeat (first | refine blk_drewN ?_ _ | refine blk_drew ?_ | refine blk_alloc ?_ _)); refine blk_far ?_ NB592_626.out _; (with_reducible repeat (first | refine blk_drewN ?_ _ | refine blk_drew ?_ | refine blk_alloc ?_ _)); exact BK592.out) hb); have n4_ := Aside0.mk (blk_below (g := gb601) (o := .cells #[.string t596, .string t597, .int .i64 t598] 31 (0, 0)) (by (with_reducible repeat (first | refine blk_drewN ?_ _ | refine blk_drew ?_ | refine blk_alloc ?_ _)); refine blk_far ?_ NB601_626.out _; (with_reducible repeat (first | refine blk_drewN ?_ _ | refine blk_drew ?_ | refine blk_alloc ?_ _)); refine blk_far ?_ NB601_626.out _; (with_reducible repeat (first | refine blk_drewN ?_ _ | refine blk_drew ?_ | refine blk_alloc ?_ _)); refine blk_far ?_ NB601_626.out _; (with_reducible repeat (first | refine blk_drewN ?_ _ | refine blk_drew ?_ | refine blk_alloc ?_ _)); exact BK601.out) hb); have n5_ := Aside0.mk (blk_below (g := gb602) (o := .cells #[.string t599, .string t600] 27 (0, 0)) (by (with_reducible repeat (first | refine blk_drewN ?_ _ | refine blk_drew ?_ | refine blk_alloc ?_ _)); refine blk_far ?_ NB602_626.out _; (with_reducible repeat (first | refine blk_drewN ?_ _ | refine blk_drew ?_ | refine blk_alloc ?_ _)); refine blk_far ?_ NB602_626.out _; (with_reducible repeat (first | refine blk_drewN ?_ _ | refine blk_drew ?_ | refine blk_alloc ?_ _)); refine blk_far ?_ NB602_626.out _; (with_reducible repeat (first | refine blk_drewN ?_ _ | refine blk_drew ?_ | refine blk_alloc ?_ _)); exact BK602.out) hb); have n6_ := Aside0.mk (blk_below (g := gb607) (o := .cells #[.string t603, .string t604, .int .i64 t605] 31 (0, 0)) (by (with_reducible repeat (first | refine blk_drewN ?_ _ | refine blk_drew ?_ | refine blk_alloc ?_ _)); refine blk_far ?_ NB607_626.out _; (with_reducible repeat (first | refine blk_drewN ?_ _ | refine blk_drew ?_ | refine blk_alloc ?_ _)); refine blk_far ?_ NB607_626.out _; (with_reducible repeat (first | refine blk_drewN ?_ _ | refine blk_drew ?_ | refine blk_alloc ?_ _)); refine blk_far ?_ NB607_626.out _; (with_reducible repeat (first | refine blk_drewN ?_ _ | refine blk_drew ?_ | refine blk_alloc ?_ _)); exact BK607.out) hb); have n7_ := Aside0.mk (blk_below (g := gb612) (o := .cells #[.string t608, .string t609, .int .i64 t610] 31 (0, 0)) (by (with_reducible repeat (first | refine blk_drewN ?_ _ | refine blk_drew ?_ | refine blk_alloc ?_ _)); refine blk_far ?_ NB612_626.out _; (with_reducible repeat (first | refine blk_drewN ?_ _ | refine blk_drew ?_ | refine blk_alloc ?_ _)); refine blk_far ?_ NB612_626.out _; (with_reducible repeat (first | refine blk_drewN ?_ _ | refine blk_drew ?_ | refine blk_alloc ?_ _)); refine blk_far ?_ NB612_626.out _; (with_reducible repeat (first | refine blk_drewN ?_ _ | refine blk_drew ?_ | refine blk_alloc ?_ _)); exact BK612.out) hb); have n8_ := Aside0.mk (blk_below (g := gb621) (o := .cells #[.string t617, .string t618, .int .i64 t619] 31 (0, 0)) (by (with_reducible repeat (first | refine blk_drewN ?_ _ | refine blk_drew ?_ | refine blk_alloc ?_ _)); refine blk_far ?_ NB621_626.out _; (with_reducible repeat (first | refine blk_drewN ?_ _ | refine blk_drew ?_ | refine blk_alloc ?_ _)); refine blk_far ?_ NB621_626.out _; (with_reducible repeat (first | refine blk_drewN ?_ _ | refine blk_drew ?_ | refine blk_alloc ?_ _)); refine blk_far ?_ NB621_626.out _; (with_reducible repeat (first | refine blk_drewN ?_ _ | refine blk_drew ?_ | refine blk_alloc ?_ _)); exact BK621.out) hb); have n9_ := Aside0.mk (blk_below (g := gb626) (o := .cells #[.string t622, .string t623, .int .i64 t624] 31 (0, 0)) (by (with_reducible repeat (first | refine blk_drewN ?_ _ | refine blk_drew ?_ | refine blk_alloc ?_ _)); refine blk_put (cs := #[.string t622, .string t623, .int .i64 0]) ?_ 2 _ rfl; (with_reducible repeat (first | refine blk_drewN ?_ _ | refine blk_drew ?_ | refine blk_alloc ?_ _)); refine blk_put (cs := #[.string t622, .string (⟨#[]⟩ : ByteArray), .int .i64 0]) ?_ 1 _ rfl; (with_reducible repeat (first | refine blk_drewN ?_ _ | refine blk_drew ?_ | refine blk_alloc ?_ _)); refine blk_put (cs := #[.string (⟨#[]⟩ : ByteArray), .string (⟨#[]⟩ : ByteArray), .int .i64 0]) ?_ 0 _ rfl; (with_reducible repeat (first | refine blk_drewN ?_ _ | refine blk_drew ?_ | refine blk_alloc ?_ _)); exact BK626.out) hb); have n10_ := Aside0.mk (below_step (by repeat (first | (with_reducible first | exact HB.out | apply below_alloc | apply pw_below_drewN | apply below_drew1 | refine below_set ?_ GE574.out | refine below_set ?_ GE581.out | refine below_set ?_ GE592.out | refine below_set ?_ GE601.out | refine below_set ?_ GE602.out | refine below_set ?_ GE607.out | refine below_set ?_ GE612.out | refine below_set ?_ GE621.out | refine below_set ?_ GE626.out) | exact HB.out)) hb); clear BK574; clear BK581; clear BK592; clear BK601; clear BK602; clear BK607; clear BK612; clear BK621; clear BK626; clear HB; have HO629 := n0_; have BK574 := n1_; have BK581 := n2_; have BK592 := n3_; have BK601 := n4_; have BK602 := n5_; have BK607 := n6_; have BK612 := n7_; have BK621 := n8_; have BK626 := n9_; have HB := n10_; clear n0_ n1_ n2_ n3_ n4_ n5_ n6_ n7_ n8_ n9_ n10_; (try clear hb); (try clear hb2); (try clear hk); (try clear hi); (try clear ho0); have hcz120_0 : w119.cell? ⟨gb601, 0, none⟩ = some (.string t596) := (blk_cell BK601.out 0).trans rfl; have hcz120_1 : w119.cell? ⟨gb601, 1, none⟩ = some (.string t597) := (blk_cell BK601.out 1).trans rfl; have hcz120_2 : w119.cell? ⟨gb601, 2, none⟩ = some (.int .i64 t598) := (blk_cell BK601.out 2).trans rfl; have hfz120_0 := blk_frozen BK601.out 0; have hfz120_1 := blk_frozen BK601.out 1; have hfz120_2 := blk_frozen BK601.out 2) | ((with_reducible refine gate_callee (f := 29) rfl ?_); refine goesL_ (some 121) rfl rfl Tryd.func29 (by kernel_rfl) rfl #[.agg #[.string t596, .string t597, .int .i64 t598]] rfl (by (try simp only [List.map_toArray, List.map_cons, List.map_nil]); first | done | rfl | (simp only [List.length_drop, List.length_take]; rfl)) ?_; (with_reducible refine (spec_LogRecords.calls kj14 t596 t597 t598 t631 t634 _ A87.out).mono ?_); rintro e w121 ⟨v632, rfl, ho0, hb⟩; refine ⟨_, rfl, ?_⟩; have n0_ := Aside0.mk (Kd.R_elder' (by (with_reducible repeat (first | apply Kd.R_alloc | apply Kd.R_drewN | apply Kd.R_drew)); exact HO629.out) (Kd.R_base ho0) hb); have n1_ := Aside0.mk (Kd.R_lower (Kd.R_newB (Kd.R_newB (Kd.R_newB (Kd.R_new' ho0 (Kd.R_lt (by (with_reducible repeat (first | apply Kd.R_alloc | apply Kd.R_drewN | apply Kd.R_drew)); exact HO629.out))) (g := gb574) (o := .cells #[.string t572, .string t573] 27 (0, 0)) (by (with_reducible repeat (first | refine blk_drewN ?_ _ | refine blk_drew ?_ | refine blk_alloc ?_ _)); exact BK574.out)) (g := gb581) (o := .cells #[.string t579, .string t580] 27 (0, 0)) (by (with_reducible repeat (first | refine blk_drewN ?_ _ | refine blk_drew ?_ | refine blk_alloc ?_ _)); exact BK581.out)) (g := gb602) (o := .cells #[.string t599, .string t600] 27 (0, 0)) (by (with_reducible repeat (first | refine blk_drewN ?_ _ | refine blk_drew ?_ | refine blk_alloc ?_ _)); exact BK602.out)) (below_size (by repeat (first | (with_reducible first | exact HB.out | apply below_alloc | apply pw_below_drewN | apply below_drew1 | refine below_set ?_ GE574.out | refine below_set ?_ GE581.out | refine below_set ?_ GE592.out | refine below_set ?_ GE601.out | refine below_set ?_ GE602.out | refine below_set ?_ GE607.out | refine below_set ?_ GE612.out | refine below_set ?_ GE621.out | refine below_set ?_ GE626.out) | exact HB.out)))); have n2_ := Aside0.mk (blk_below BK574.out hb); have n3_ := Aside0.mk (blk_below BK581.out hb); have n4_ := Aside0.mk (blk_below BK592.out hb); have n5_ := Aside0.mk (blk_below BK601.out hb); have n6_ := Aside0.mk (blk_below BK602.out hb); have n7_ := Aside0.mk (blk_below BK607.out hb); have n8_ := Aside0.mk (blk_below BK612.out hb); have n9_ := Aside0.mk (blk_below BK621.out hb); have n10_ := Aside0.mk (blk_below BK626.out hb); have n11_ := Aside0.mk (below_step (by repeat (first | (with_reducible first | exact HB.out | apply below_alloc | apply pw_below_drewN | apply below_drew1 | refine below_set ?_ GE574.out | refine below_set ?_ GE581.out | refine below_set ?_ GE592.out | refine below_set ?_ GE601.out | refine below_set ?_ GE602.out | refine below_set ?_ GE607.out | refine below_set ?_ GE612.out | refine below_set ?_ GE621.out | refine below_set ?_ GE626.out) | exact HB.out)) hb); clear HO629; clear BK574; clear BK581; clear BK592; clear BK601; clear BK602; clear BK607; clear BK612; clear BK621; clear BK626; clear HB; have HO629 := n0_; have HO633 := n1_; have BK574 := n2_; have BK581 := n3_; have BK592 := n4_; have BK601 := n5_; have BK602 := n6_; have BK607 := n7_; have BK612 := n8_; have BK621 := n9_; have BK626 := n10_; have HB := n11_; clear n0_ n1_ n2_ n3_ n4_ n5_ n6_ n7_ n8_ n9_ n10_ n11_; (try clear hb); (try clear hb2); (try clear hk); (try clear hi); (try clear ho0)))
          (try simp only [Act.put, List.setIfInBounds_toArray, List.set_cons_zero, List.set_cons_succ])
          go_cut [142] (fun v142 wc => ∃ (kq : Nat) (x142_87 : Bool), v142 = .bool x142_87 ∧ Aside0 (laws_FnLogs.j1 kq t606 t620 t627 x142_87 t596 t597 t598 t599 t600 t603 t604 t605 t617 t618 t619 = some true) ∧ Aside0 (kq ≤ kj14) ∧ Aside0 (Kd.R k27 27 wc w.heap.size (fun k_ => k_ ≠ gb574 ∧ k_ ≠ gb581 ∧ k_ ≠ gb602) v628 t627) ∧ Aside0 (wc.heap[gb574]? = some (.cells #[.string t572, .string t573] 27 (0, 0))) ∧ Aside0 (wc.heap[gb581]? = some (.cells #[.string t579, .string t580] 27 (0, 0))) ∧ Aside0 (wc.heap[gb592]? = some (.cells #[.string t589, .string t590, .int .i64 t591] 31 (0, 0))) ∧ Aside0 (wc.heap[gb601]? = some (.cells #[.string t596, .string t597, .int .i64 t598] 31 (0, 0))) ∧ Aside0 (wc.heap[gb602]? = some (.cells #[.string t599, .string t600] 27 (0, 0))) ∧ Aside0 (wc.heap[gb607]? = some (.cells #[.string t603, .string t604, .int .i64 t605] 31 (0, 0))) ∧ Aside0 (wc.heap[gb612]? = some (.cells #[.string t608, .string t609, .int .i64 t610] 31 (0, 0))) ∧ Aside0 (wc.heap[gb621]? = some (.cells #[.string t617, .string t618, .int .i64 t619] 31 (0, 0))) ∧ Aside0 (wc.heap[gb626]? = some (.cells #[.string t622, .string t623, .int .i64 t624] 31 (0, 0))) ∧ Aside0 (Below w.heap.size w wc))
          case first =>
            have H := HC88.out
            clear HC88
            by_cases c122 : (!(t617.toList == t622.toList) || (!(t618.toList == t623.toList) || (!(t619 == t624)))) = true
            · rw [if_pos c122] at H
              have c122b0 : (!(t617.toList == t622.toList) || (!(t618.toList == t623.toList) || (!(t619 == t624)))) = true := c122
              clear c122
              (first | rw [c122b0] | (simp only [i64_w, i32_w]; rw [c122b0]) | skip)
              (try rw [c122b1])
              (try rw [c122b2])
              rcases kj14 with _ | kd_
              · exact absurd H (by simp [laws_FnLogs.j1])
              · simp only [laws_FnLogs.j1] at H
                first | (rw [if_pos rfl] at H; exact absurd H (by simp)) | exact absurd H (by simp)
            · rw [if_neg c122] at H
              have c122b0 : (!(t617.toList == t622.toList) || (!(t618.toList == t623.toList) || (!(t619 == t624)))) = false := by simpa using c122
              clear c122
              (first | rw [c122b0] | (simp only [i64_w, i32_w]; rw [c122b0]) | skip)
              (try rw [c122b1])
              (try rw [c122b2])
              by_cases c123 : (t620 != t625) = true
              · rw [if_pos c123] at H
                have c123b0 : (t620 != t625) = true := c123
                (try (have c123b1 : decide (t620 = t625) = false := by simpa using c123))
                (try (have c123b2 : (t620 == t625) = false := by simpa using c123))
                (try (have c123b3 : ¬ (t620 = t625) := by simpa using c123))
                clear c123
                rcases kj14 with _ | kd_
                · exact absurd H (by simp [laws_FnLogs.j1])
                · simp only [laws_FnLogs.j1] at H
                  first | (rw [if_pos rfl] at H; exact absurd H (by simp)) | exact absurd H (by simp)
              · rw [if_neg c123] at H
                have c123b0 : (t620 != t625) = false := by simpa using c123
                (try (have c123b1 : decide (t620 = t625) = true := by simpa using c123))
                (try (have c123b2 : (t620 == t625) = true := by simpa using c123))
                clear c123
                by_cases c124 : (t630 != t634) = true
                · rw [if_pos c124] at H
                  have c124b0 : (t630 != t634) = true := c124
                  (try (have c124b1 : decide (t630 = t634) = false := by simpa using c124))
                  (try (have c124b2 : (t630 == t634) = false := by simpa using c124))
                  (try (have c124b3 : ¬ (t630 = t634) := by simpa using c124))
                  clear c124
                  rcases kj14 with _ | kd_
                  · exact absurd H (by simp [laws_FnLogs.j1])
                  · simp only [laws_FnLogs.j1] at H
                    first | (rw [if_pos rfl] at H; exact absurd H (by simp)) | exact absurd H (by simp)
                · rw [if_neg c124] at H
                  have c124b0 : (t630 != t634) = false := by simpa using c124
                  (try (have c124b1 : decide (t630 = t634) = true := by simpa using c124))
                  (try (have c124b2 : (t630 == t634) = true := by simpa using c124))
                  clear c124
                  replace H := Option.bind_eq_some_iff.mp H
                  obtain ⟨t635, A1250, H⟩ := H
                  have A125 := Aside0.mk A1250
                  clear A1250
                  have H' := Aside0.mk H
                  clear H
                  have hnb126 := NB621_574.out
                  have hnc126 := NB574_621.out
                  have hnb127 := NB621_581.out
                  have hnc127 := NB581_621.out
                  have hnb128 := NB621_592.out
                  have hnc128 := NB592_621.out
                  have hnb129 := NB621_601.out
                  have hnc129 := NB601_621.out
                  have hnb130 := NB621_602.out
                  have hnc130 := NB602_621.out
                  have hnb131 := NB621_607.out
                  have hnc131 := NB607_621.out
                  have hnb132 := NB621_612.out
                  have hnc132 := NB612_621.out
                  have hnb133 := NB621_626.out
                  have hnc133 := NB626_621.out
                  have hcz134_0 : w121.cell? ⟨gb621, 0, none⟩ = some (.string t617) := (blk_cell BK621.out 0).trans rfl
                  have hcz134_1 : w121.cell? ⟨gb621, 1, none⟩ = some (.string t618) := (blk_cell BK621.out 1).trans rfl
                  have hcz134_2 : w121.cell? ⟨gb621, 2, none⟩ = some (.int .i64 t619) := (blk_cell BK621.out 2).trans rfl
                  have hfz134_0 := blk_frozen BK621.out 0
                  have hfz134_1 := blk_frozen BK621.out 1
                  have hfz134_2 := blk_frozen BK621.out 2
                  have hnb135 := NB626_574.out
                  have hnc135 := NB574_626.out
                  have hnb136 := NB626_581.out
                  have hnc136 := NB581_626.out
                  have hnb137 := NB626_592.out
                  have hnc137 := NB592_626.out
                  have hnb138 := NB626_601.out
                  have hnc138 := NB601_626.out
                  have hnb139 := NB626_602.out
                  have hnc139 := NB602_626.out
                  have hnb140 := NB626_607.out
                  have hnc140 := NB607_626.out
                  have hnb141 := NB626_612.out
                  have hnc141 := NB612_626.out
                  have hcz142_0 : w121.cell? ⟨gb626, 0, none⟩ = some (.string t622) := (blk_cell BK626.out 0).trans rfl
                  have hcz142_1 : w121.cell? ⟨gb626, 1, none⟩ = some (.string t623) := (blk_cell BK626.out 1).trans rfl
                  have hcz142_2 : w121.cell? ⟨gb626, 2, none⟩ = some (.int .i64 t624) := (blk_cell BK626.out 2).trans rfl
                  have hfz142_0 := blk_frozen BK626.out 0
                  have hfz142_1 := blk_frozen BK626.out 1
                  have hfz142_2 := blk_frozen BK626.out 2
                  obtain ⟨Ao143, co143, eo143⟩ := Kd.R_slice HO629.out
                  subst eo143
                  obtain ⟨Ao144, co144, eo144⟩ := Kd.R_slice HO633.out
                  subst eo144
                  go_wp2_with (first | (go_at_call 42; (with_reducible refine (laws_vRecords.calls kj14 _ _ t627 _ _ t631 t635 _ ?side1 ?side2 ?side3 ?side4 A125.out).mono ?_); (case side1 => repeat (first | exact (Kd.R_reads' HO629.out).2.2 | (with_reducible refine Kd.C_alloc ?_ _) | (with_reducible refine Kd.C_drewN ?_ _) | (with_reducible refine Kd.C_drew ?_))); (case side2 => exact (Kd.R_reads' HO629.out).2.1); (case side3 => repeat (first | exact (Kd.R_reads' HO633.out).2.2 | (with_reducible refine Kd.C_alloc ?_ _) | (with_reducible refine Kd.C_drewN ?_ _) | (with_reducible refine Kd.C_drew ?_))); (case side4 => exact (Kd.R_reads' HO633.out).2.1); rintro e w' ⟨rfl, ⟨nd, rfl⟩⟩))
                  go_meet
                  case rel => exact ⟨_, (!t635), (by first | rfl | (simp; done) | (simp [*]; done)), H', ⟨by have := HJ14.out; first | omega | exact Nat.le_refl _⟩, ⟨by (with_reducible repeat (first | apply Kd.R_alloc | apply Kd.R_drewN | apply Kd.R_drew)); exact Kd.R_mono HO629.out (fun _ hk => ⟨hk.1.1.1.2, ⟨hk.1.1.2, hk.1.2⟩⟩)⟩, ⟨by (with_reducible repeat (first | refine blk_drewN ?_ _ | refine blk_drew ?_ | refine blk_alloc ?_ _)); exact BK574.out⟩, ⟨by (with_reducible repeat (first | refine blk_drewN ?_ _ | refine blk_drew ?_ | refine blk_alloc ?_ _)); exact BK581.out⟩, ⟨by (with_reducible repeat (first | refine blk_drewN ?_ _ | refine blk_drew ?_ | refine blk_alloc ?_ _)); exact BK592.out⟩, ⟨by (with_reducible repeat (first | refine blk_drewN ?_ _ | refine blk_drew ?_ | refine blk_alloc ?_ _)); exact BK601.out⟩, ⟨by (with_reducible repeat (first | refine blk_drewN ?_ _ | refine blk_drew ?_ | refine blk_alloc ?_ _)); exact BK602.out⟩, ⟨by (with_reducible repeat (first | refine blk_drewN ?_ _ | refine blk_drew ?_ | refine blk_alloc ?_ _)); exact BK607.out⟩, ⟨by (with_reducible repeat (first | refine blk_drewN ?_ _ | refine blk_drew ?_ | refine blk_alloc ?_ _)); exact BK612.out⟩, ⟨by (with_reducible repeat (first | refine blk_drewN ?_ _ | refine blk_drew ?_ | refine blk_alloc ?_ _)); exact BK621.out⟩, ⟨by (with_reducible repeat (first | refine blk_drewN ?_ _ | refine blk_drew ?_ | refine blk_alloc ?_ _)); exact BK626.out⟩, ⟨by repeat (first | (with_reducible first | exact HB.out | apply below_alloc | apply pw_below_drewN | apply below_drew1 | refine below_set ?_ GE574.out | refine below_set ?_ GE581.out | refine below_set ?_ GE592.out | refine below_set ?_ GE601.out | refine below_set ?_ GE602.out | refine below_set ?_ GE607.out | refine below_set ?_ GE612.out | refine below_set ?_ GE621.out | refine below_set ?_ GE626.out) | exact HB.out)⟩⟩
          case rest =>
            clear HC88
            try clear c1
            try clear c2
            try clear p2
            try clear c3
            try clear c4
            try clear c7
            try clear c8
            try clear c9
            try clear c10
            try clear c11
            try clear c12
            try clear c13
            try clear c14
            try clear c20
            try clear c22
            try clear c25
            try clear c26
            try clear c29
            try clear c30
            try clear c40
            try clear c41
            try clear c70
            try clear c70b0
            try clear c70b1
            try clear c70b2
            try clear c71
            try clear c71b0
            try clear c71b1
            try clear c72
            try clear c72b0
            try clear c72b1
            try clear c72b2
            try clear c75
            try clear c75b0
            try clear c75b1
            try clear c75b2
            try clear c76
            try clear c76b0
            try clear c83
            try clear c89
            try clear c90
            try clear c91
            try clear c92
            try clear c93
            try clear c94
            try clear c98
            try clear c99
            try clear c100
            try clear c101
            try clear c102
            try clear c103
            try clear c104
            try clear c109
            try clear c110
            try clear c111
            try clear c112
            try clear c113
            try clear c114
            try clear c115
            try clear c116
            try clear c122
            try clear c122b0
            try clear c122b1
            try clear c122b2
            try clear c123
            try clear c123b0
            try clear c123b1
            try clear c123b2
            try clear c124
            try clear c124b0
            try clear c124b1
            try clear c124b2
            try clear c126
            try clear c127
            try clear c128
            try clear c129
            try clear c130
            try clear c131
            try clear c132
            try clear c133
            try clear c135
            try clear c136
            try clear c137
            try clear c138
            try clear c139
            try clear c140
            try clear c141
            try clear hcz105_0
            try clear hcz105_1
            try clear hcz105_2
            try clear hcz106_0
            try clear hcz106_1
            try clear hcz106_2
            try clear hcz117_0
            try clear hcz117_1
            try clear hcz117_2
            try clear hcz118_0
            try clear hcz118_1
            try clear hcz118_2
            try clear hcz120_0
            try clear hcz120_1
            try clear hcz120_2
            try clear hcz134_0
            try clear hcz134_1
            try clear hcz134_2
            try clear hcz142_0
            try clear hcz142_1
            try clear hcz142_2
            try clear hcz95_0
            try clear hcz95_1
            try clear hcz95_2
            try clear hfz105_0
            try clear hfz105_1
            try clear hfz105_2
            try clear hfz106_0
            try clear hfz106_1
            try clear hfz106_2
            try clear hfz117_0
            try clear hfz117_1
            try clear hfz117_2
            try clear hfz118_0
            try clear hfz118_1
            try clear hfz118_2
            try clear hfz120_0
            try clear hfz120_1
            try clear hfz120_2
            try clear hfz134_0
            try clear hfz134_1
            try clear hfz134_2
            try clear hfz142_0
            try clear hfz142_1
            try clear hfz142_2
            try clear hfz95_0
            try clear hfz95_1
            try clear hfz95_2
            try clear p2
            obtain ⟨kq, x142_87, rfl, HA, HJ87, HO_21, BK574, BK581, BK592, BK601, BK602, BK607, BK612, BK621, BK626, HB⟩ := hcut
            cases kq with
            | zero => exact absurd HA.out (by simp [laws_FnLogs.j1])
            | succ kj87 =>
              have H := HA.out
              clear HA
              simp only [laws_FnLogs.j1] at H
              by_cases c145 : x142_87 = true
              · subst c145
                have H1 : (some false) = some true := by first | with_reducible rfl | (rw [if_pos rfl] at H; exact H)
                clear H
                have H := H1
                clear H1
                exact absurd H (by simp)
              · replace c145 := Bool.eq_false_iff.mpr c145
                subst c145
                have H1 : ((impl_LogRecords.f kj87 t617 t618 t619).bind fun bt636 => (if t620 = true then ((laws_vRecords.f kj87 bt636.1 t627).bind fun t640 => (laws_FnLogs.j2 kj87 t606 t627 (!t640) t596 t597 t598 t599 t600 t603 t604 t605)) else (laws_FnLogs.j2 kj87 t606 t627 false t596 t597 t598 t599 t600 t603 t604 t605))) = some true := by rw [if_neg (show ¬ (false = true) by decide)] at H; exact H
                clear H
                have H := H1
                clear H1
                replace H := Option.bind_eq_some_iff.mp H
                obtain ⟨⟨t636, t639⟩, A1460, H⟩ := H
                dsimp only at H
                have A146 := Aside0.mk A1460
                clear A1460
                have HC147 := Aside0.mk H
                clear H
                have hnb148 := NB621_574.out
                have hnc148 := NB574_621.out
                have hnb149 := NB621_581.out
                have hnc149 := NB581_621.out
                have hnb150 := NB621_592.out
                have hnc150 := NB592_621.out
                have hnb151 := NB621_601.out
                have hnc151 := NB601_621.out
                have hnb152 := NB621_602.out
                have hnc152 := NB602_621.out
                have hnb153 := NB621_607.out
                have hnc153 := NB607_621.out
                have hnb154 := NB621_612.out
                have hnc154 := NB612_621.out
                have hnb155 := NB621_626.out
                have hnc155 := NB626_621.out
                have hcz156_0 : wc.cell? ⟨gb621, 0, none⟩ = some (.string t617) := (blk_cell BK621.out 0).trans rfl
                have hcz156_1 : wc.cell? ⟨gb621, 1, none⟩ = some (.string t618) := (blk_cell BK621.out 1).trans rfl
                have hcz156_2 : wc.cell? ⟨gb621, 2, none⟩ = some (.int .i64 t619) := (blk_cell BK621.out 2).trans rfl
                have hfz156_0 := blk_frozen BK621.out 0
                have hfz156_1 := blk_frozen BK621.out 1
                have hfz156_2 := blk_frozen BK621.out 2
                go_upto_region 20 with (first | ((with_reducible refine gate_callee (f := 30) rfl ?_); refine goesL_ (some 145) rfl rfl Tryd.func30 (by kernel_rfl) rfl #[.agg #[.string t617, .string t618, .int .i64 t619]] rfl (by (try simp only [List.map_toArray, List.map_cons, List.map_nil]); first | done | rfl | (simp only [List.length_drop, List.length_take]; rfl)) ?_; (with_reducible refine (impl_LogRecords.calls kj87 t617 t618 t619 t636 t639 _ ?side1 A146.out).mono ?_); (case side1 => exact GT.below hG_.out (by repeat (first | (with_reducible first | exact HB.out | apply below_alloc | apply pw_below_drewN | apply below_drew1 | refine below_set ?_ GE574.out | refine below_set ?_ GE581.out | refine below_set ?_ GE592.out | refine below_set ?_ GE601.out | refine below_set ?_ GE602.out | refine below_set ?_ GE607.out | refine below_set ?_ GE612.out | refine below_set ?_ GE621.out | refine below_set ?_ GE626.out) | exact HB.out)) (Nat.le_refl _)); rintro e w157 ⟨v637, rfl, ho0, hb⟩; refine ⟨_, rfl, ?_⟩; have n0_ := Aside0.mk (Kd.R_elder' (by (with_reducible repeat (first | apply Kd.R_alloc | apply Kd.R_drewN | apply Kd.R_drew)); exact HO_21.out) (Kd.R_base ho0) hb); have n1_ := Aside0.mk (Kd.R_lower (Kd.R_newB (Kd.R_newB (Kd.R_newB (Kd.R_new' ho0 (Kd.R_lt (by (with_reducible repeat (first | apply Kd.R_alloc | apply Kd.R_drewN | apply Kd.R_drew)); exact HO_21.out))) (g := gb574) (o := .cells #[.string t572, .string t573] 27 (0, 0)) (by (with_reducible repeat (first | refine blk_drewN ?_ _ | refine blk_drew ?_ | refine blk_alloc ?_ _)); exact BK574.out)) (g := gb581) (o := .cells #[.string t579, .string t580] 27 (0, 0)) (by (with_reducible repeat (first | refine blk_drewN ?_ _ | refine blk_drew ?_ | refine blk_alloc ?_ _)); exact BK581.out)) (g := gb602) (o := .cells #[.string t599, .string t600] 27 (0, 0)) (by (with_reducible repeat (first | refine blk_drewN ?_ _ | refine blk_drew ?_ | refine blk_alloc ?_ _)); exact BK602.out)) (below_size (by repeat (first | (with_reducible first | exact HB.out | apply below_alloc | apply pw_below_drewN | apply below_drew1 | refine below_set ?_ GE574.out | refine below_set ?_ GE581.out | refine below_set ?_ GE592.out | refine below_set ?_ GE601.out | refine below_set ?_ GE602.out | refine below_set ?_ GE607.out | refine below_set ?_ GE612.out | refine below_set ?_ GE621.out | refine below_set ?_ GE626.out) | exact HB.out)))); have n2_ := Aside0.mk (blk_below BK574.out hb); have n3_ := Aside0.mk (blk_below BK581.out hb); have n4_ := Aside0.mk (blk_below BK592.out hb); have n5_ := Aside0.mk (blk_below BK601.out hb); have n6_ := Aside0.mk (blk_below BK602.out hb); have n7_ := Aside0.mk (blk_below BK607.out hb); have n8_ := Aside0.mk (blk_below BK612.out hb); have n9_ := Aside0.mk (blk_below BK621.out hb); have n10_ := Aside0.mk (blk_below BK626.out hb); have n11_ := Aside0.mk (below_step (by repeat (first | (with_reducible first | exact HB.out | apply below_alloc | apply pw_below_drewN | apply below_drew1 | refine below_set ?_ GE574.out | refine below_set ?_ GE581.out | refine below_set ?_ GE592.out | refine below_set ?_ GE601.out | refine below_set ?_ GE602.out | refine below_set ?_ GE607.out | refine below_set ?_ GE612.out | refine below_set ?_ GE621.out | refine below_set ?_ GE626.out) | exact HB.out)) hb); clear HO_21; clear BK574; clear BK581; clear BK592; clear BK601; clear BK602; clear BK607; clear BK612; clear BK621; clear BK626; clear HB; have HO_21 := n0_; have HO638 := n1_; have BK574 := n2_; have BK581 := n3_; have BK592 := n4_; have BK601 := n5_; have BK602 := n6_; have BK607 := n7_; have BK612 := n8_; have BK621 := n9_; have BK626 := n10_; have HB := n11_; clear n0_ n1_ n2_ n3_ n4_ n5_ n6_ n7_ n8_ n9_ n10_ n11_; (try clear hb); (try clear hb2); (try clear hk); (try clear hi); (try clear ho0)))
                (try simp only [Act.put, List.setIfInBounds_toArray, List.set_cons_zero, List.set_cons_succ])
                go_cut [154] (fun v154 wc => ∃ (kq : Nat) (x154_146 : Bool), v154 = .bool x154_146 ∧ Aside0 (laws_FnLogs.j2 kq t606 t627 x154_146 t596 t597 t598 t599 t600 t603 t604 t605 = some true) ∧ Aside0 (kq ≤ kj87) ∧ Aside0 (Kd.R k27 27 wc w.heap.size (fun k_ => k_ ≠ gb574 ∧ k_ ≠ gb581 ∧ k_ ≠ gb602) v628 t627) ∧ Aside0 (wc.heap[gb574]? = some (.cells #[.string t572, .string t573] 27 (0, 0))) ∧ Aside0 (wc.heap[gb581]? = some (.cells #[.string t579, .string t580] 27 (0, 0))) ∧ Aside0 (wc.heap[gb592]? = some (.cells #[.string t589, .string t590, .int .i64 t591] 31 (0, 0))) ∧ Aside0 (wc.heap[gb601]? = some (.cells #[.string t596, .string t597, .int .i64 t598] 31 (0, 0))) ∧ Aside0 (wc.heap[gb602]? = some (.cells #[.string t599, .string t600] 27 (0, 0))) ∧ Aside0 (wc.heap[gb607]? = some (.cells #[.string t603, .string t604, .int .i64 t605] 31 (0, 0))) ∧ Aside0 (wc.heap[gb612]? = some (.cells #[.string t608, .string t609, .int .i64 t610] 31 (0, 0))) ∧ Aside0 (wc.heap[gb621]? = some (.cells #[.string t617, .string t618, .int .i64 t619] 31 (0, 0))) ∧ Aside0 (wc.heap[gb626]? = some (.cells #[.string t622, .string t623, .int .i64 t624] 31 (0, 0))) ∧ Aside0 (Below w.heap.size w wc))
                case first =>
                  have H := HC147.out
                  clear HC147
                  by_cases c158 : t620 = true
                  · subst c158
                    have H1 : ((laws_vRecords.f kj87 t636 t627).bind fun t640 => (laws_FnLogs.j2 kj87 t606 t627 (!t640) t596 t597 t598 t599 t600 t603 t604 t605)) = some true := by rw [if_pos rfl] at H; exact H
                    clear H
                    have H := H1
                    clear H1
                    replace H := Option.bind_eq_some_iff.mp H
                    obtain ⟨t640, A1590, H⟩ := H
                    have A159 := Aside0.mk A1590
                    clear A1590
                    have H' := Aside0.mk H
                    clear H
                    obtain ⟨Ao160, co160, eo160⟩ := Kd.R_slice HO638.out
                    subst eo160
                    obtain ⟨Ao161, co161, eo161⟩ := Kd.R_slice HO_21.out
                    subst eo161
                    go_wp2_with (first | (go_at_call 42; (with_reducible refine (laws_vRecords.calls kj87 _ _ t636 _ _ t627 t640 _ ?side1 ?side2 ?side3 ?side4 A159.out).mono ?_); (case side1 => repeat (first | exact (Kd.R_reads' HO638.out).2.2 | (with_reducible refine Kd.C_alloc ?_ _) | (with_reducible refine Kd.C_drewN ?_ _) | (with_reducible refine Kd.C_drew ?_))); (case side2 => exact (Kd.R_reads' HO638.out).2.1); (case side3 => repeat (first | exact (Kd.R_reads' HO_21.out).2.2 | (with_reducible refine Kd.C_alloc ?_ _) | (with_reducible refine Kd.C_drewN ?_ _) | (with_reducible refine Kd.C_drew ?_))); (case side4 => exact (Kd.R_reads' HO_21.out).2.1); rintro e w' ⟨rfl, ⟨nd, rfl⟩⟩))
                    go_meet
                    case rel => exact ⟨_, (!t640), (by first | rfl | (simp; done) | (simp [*]; done)), H', ⟨by have := HJ14.out; have := HJ87.out; first | omega | exact Nat.le_refl _⟩, ⟨by (with_reducible repeat (first | apply Kd.R_alloc | apply Kd.R_drewN | apply Kd.R_drew)); exact Kd.R_mono HO_21.out (fun _ hk => ⟨hk.1.1, ⟨hk.1.2.1, hk.1.2.2⟩⟩)⟩, ⟨by (with_reducible repeat (first | refine blk_drewN ?_ _ | refine blk_drew ?_ | refine blk_alloc ?_ _)); exact BK574.out⟩, ⟨by (with_reducible repeat (first | refine blk_drewN ?_ _ | refine blk_drew ?_ | refine blk_alloc ?_ _)); exact BK581.out⟩, ⟨by (with_reducible repeat (first | refine blk_drewN ?_ _ | refine blk_drew ?_ | refine blk_alloc ?_ _)); exact BK592.out⟩, ⟨by (with_reducible repeat (first | refine blk_drewN ?_ _ | refine blk_drew ?_ | refine blk_alloc ?_ _)); exact BK601.out⟩, ⟨by (with_reducible repeat (first | refine blk_drewN ?_ _ | refine blk_drew ?_ | refine blk_alloc ?_ _)); exact BK602.out⟩, ⟨by (with_reducible repeat (first | refine blk_drewN ?_ _ | refine blk_drew ?_ | refine blk_alloc ?_ _)); exact BK607.out⟩, ⟨by (with_reducible repeat (first | refine blk_drewN ?_ _ | refine blk_drew ?_ | refine blk_alloc ?_ _)); exact BK612.out⟩, ⟨by (with_reducible repeat (first | refine blk_drewN ?_ _ | refine blk_drew ?_ | refine blk_alloc ?_ _)); exact BK621.out⟩, ⟨by (with_reducible repeat (first | refine blk_drewN ?_ _ | refine blk_drew ?_ | refine blk_alloc ?_ _)); exact BK626.out⟩, ⟨by repeat (first | (with_reducible first | exact HB.out | apply below_alloc | apply pw_below_drewN | apply below_drew1 | refine below_set ?_ GE574.out | refine below_set ?_ GE581.out | refine below_set ?_ GE592.out | refine below_set ?_ GE601.out | refine below_set ?_ GE602.out | refine below_set ?_ GE607.out | refine below_set ?_ GE612.out | refine below_set ?_ GE621.out | refine below_set ?_ GE626.out) | exact HB.out)⟩⟩
                  · replace c158 := Bool.eq_false_iff.mpr c158
                    subst c158
                    have H1 : (laws_FnLogs.j2 kj87 t606 t627 false t596 t597 t598 t599 t600 t603 t604 t605) = some true := by rw [if_neg (show ¬ (false = true) by decide)] at H; exact H
                    clear H
                    have H := H1
                    clear H1
                    have H' := Aside0.mk H
                    clear H
                    go_wp2
                    go_meet
                    case rel => exact ⟨_, (false), (by first | rfl | (simp; done) | (simp [*]; done)), H', ⟨by have := HJ14.out; have := HJ87.out; first | omega | exact Nat.le_refl _⟩, ⟨by (with_reducible repeat (first | apply Kd.R_alloc | apply Kd.R_drewN | apply Kd.R_drew)); exact Kd.R_mono HO_21.out (fun _ hk => ⟨hk.1.1, ⟨hk.1.2.1, hk.1.2.2⟩⟩)⟩, ⟨by (with_reducible repeat (first | refine blk_drewN ?_ _ | refine blk_drew ?_ | refine blk_alloc ?_ _)); exact BK574.out⟩, ⟨by (with_reducible repeat (first | refine blk_drewN ?_ _ | refine blk_drew ?_ | refine blk_alloc ?_ _)); exact BK581.out⟩, ⟨by (with_reducible repeat (first | refine blk_drewN ?_ _ | refine blk_drew ?_ | refine blk_alloc ?_ _)); exact BK592.out⟩, ⟨by (with_reducible repeat (first | refine blk_drewN ?_ _ | refine blk_drew ?_ | refine blk_alloc ?_ _)); exact BK601.out⟩, ⟨by (with_reducible repeat (first | refine blk_drewN ?_ _ | refine blk_drew ?_ | refine blk_alloc ?_ _)); exact BK602.out⟩, ⟨by (with_reducible repeat (first | refine blk_drewN ?_ _ | refine blk_drew ?_ | refine blk_alloc ?_ _)); exact BK607.out⟩, ⟨by (with_reducible repeat (first | refine blk_drewN ?_ _ | refine blk_drew ?_ | refine blk_alloc ?_ _)); exact BK612.out⟩, ⟨by (with_reducible repeat (first | refine blk_drewN ?_ _ | refine blk_drew ?_ | refine blk_alloc ?_ _)); exact BK621.out⟩, ⟨by (with_reducible repeat (first | refine blk_drewN ?_ _ | refine blk_drew ?_ | refine blk_alloc ?_ _)); exact BK626.out⟩, ⟨by repeat (first | (with_reducible first | exact HB.out | apply below_alloc | apply pw_below_drewN | apply below_drew1 | refine below_set ?_ GE574.out | refine below_set ?_ GE581.out | refine below_set ?_ GE592.out | refine below_set ?_ GE601.out | refine below_set ?_ GE602.out | refine below_set ?_ GE607.out | refine below_set ?_ GE612.out | refine below_set ?_ GE621.out | refine below_set ?_ GE626.out) | exact HB.out)⟩⟩
                case rest =>
                  clear HC147
                  try clear c1
                  try clear c2
                  try clear p2
                  try clear c3
                  try clear c4
                  try clear c7
                  try clear c8
                  try clear c9
                  try clear c10
                  try clear c11
                  try clear c12
                  try clear c13
                  try clear c14
                  try clear c15
                  try clear c20
                  try clear c22
                  try clear c25
                  try clear c26
                  try clear c29
                  try clear c30
                  try clear c40
                  try clear c41
                  try clear c70
                  try clear c70b0
                  try clear c70b1
                  try clear c70b2
                  try clear c71
                  try clear c71b0
                  try clear c71b1
                  try clear c72
                  try clear c72b0
                  try clear c72b1
                  try clear c72b2
                  try clear c75
                  try clear c75b0
                  try clear c75b1
                  try clear c75b2
                  try clear c76
                  try clear c76b0
                  try clear c83
                  try clear c89
                  try clear c90
                  try clear c91
                  try clear c92
                  try clear c93
                  try clear c94
                  try clear c98
                  try clear c99
                  try clear c100
                  try clear c101
                  try clear c102
                  try clear c103
                  try clear c104
                  try clear c109
                  try clear c110
                  try clear c111
                  try clear c112
                  try clear c113
                  try clear c114
                  try clear c115
                  try clear c116
                  try clear c122
                  try clear c122b0
                  try clear c122b1
                  try clear c122b2
                  try clear c123
                  try clear c123b0
                  try clear c123b1
                  try clear c123b2
                  try clear c124
                  try clear c124b0
                  try clear c124b1
                  try clear c124b2
                  try clear c126
                  try clear c127
                  try clear c128
                  try clear c129
                  try clear c130
                  try clear c131
                  try clear c132
                  try clear c133
                  try clear c135
                  try clear c136
                  try clear c137
                  try clear c138
                  try clear c139
                  try clear c140
                  try clear c141
                  try clear c145
                  try clear c148
                  try clear c149
                  try clear c150
                  try clear c151
                  try clear c152
                  try clear c153
                  try clear c154
                  try clear c155
                  try clear c158
                  try clear hcz105_0
                  try clear hcz105_1
                  try clear hcz105_2
                  try clear hcz106_0
                  try clear hcz106_1
                  try clear hcz106_2
                  try clear hcz117_0
                  try clear hcz117_1
                  try clear hcz117_2
                  try clear hcz118_0
                  try clear hcz118_1
                  try clear hcz118_2
                  try clear hcz120_0
                  try clear hcz120_1
                  try clear hcz120_2
                  try clear hcz134_0
                  try clear hcz134_1
                  try clear hcz134_2
                  try clear hcz142_0
                  try clear hcz142_1
                  try clear hcz142_2
                  try clear hcz156_0
                  try clear hcz156_1
                  try clear hcz156_2
                  try clear hcz95_0
                  try clear hcz95_1
                  try clear hcz95_2
                  try clear hfz105_0
                  try clear hfz105_1
                  try clear hfz105_2
                  try clear hfz106_0
                  try clear hfz106_1
                  try clear hfz106_2
                  try clear hfz117_0
                  try clear hfz117_1
                  try clear hfz117_2
                  try clear hfz118_0
                  try clear hfz118_1
                  try clear hfz118_2
                  try clear hfz120_0
                  try clear hfz120_1
                  try clear hfz120_2
                  try clear hfz134_0
                  try clear hfz134_1
                  try clear hfz134_2
                  try clear hfz142_0
                  try clear hfz142_1
                  try clear hfz142_2
                  try clear hfz156_0
                  try clear hfz156_1
                  try clear hfz156_2
                  try clear hfz95_0
                  try clear hfz95_1
                  try clear hfz95_2
                  try clear p2
                  obtain ⟨kq, x154_146, rfl, HA, HJ146, HO_21, BK574, BK581, BK592, BK601, BK602, BK607, BK612, BK621, BK626, HB⟩ := hcut
                  cases kq with
                  | zero => exact absurd HA.out (by simp [laws_FnLogs.j2])
                  | succ kj146 =>
                    have H := HA.out
                    clear HA
                    simp only [laws_FnLogs.j2] at H
                    by_cases c162 : x154_146 = true
                    · subst c162
                      have H1 : (some false) = some true := by first | with_reducible rfl | (rw [if_pos rfl] at H; exact H)
                      clear H
                      have H := H1
                      clear H1
                      exact absurd H (by simp)
                    · replace c162 := Bool.eq_false_iff.mpr c162
                      subst c162
                      have H1 : (if t606 = 0 then ((impl_LogRecords.f kj146 t603 t604 t605).bind fun bt641 => ((impl_IsValidLog.f kj146 t603 t604 t605).bind fun t645 => (if t645 = true then (if (bt641.1.length : Int) = (wrap64 ((t627.length : Int) + 1)) then (if 0 ≤ (t627.length : Int) then (if (t627.length : Int) ≤ (bt641.1.length : Int) then ((laws_vRecords.f kj146 (bt641.1.take ((t627.length : Int) : Int).toNat) t627).bind fun t650 => (if t650 = true then (if (t627.length : Int) < (bt641.1.length : Int) then (some ((((rd_T27 bt641.1 (t627.length : Int)).f0).toList) == t599.toList && ((((rd_T27 bt641.1 (t627.length : Int)).f1).toList) == t600.toList))) else (none)) else (some false))) else (none)) else (none)) else (some false)) else (some false)))) else (some (t603.toList == t596.toList && (t604.toList == t597.toList && (t605 == t598))))) = some true := by rw [if_neg (show ¬ (false = true) by decide)] at H; exact H
                      clear H
                      have H := H1
                      clear H1
                      by_cases c163 : t606 = 0
                      · rw [if_pos c163] at H
                        have c163b0 : (t606 == 0) = true := beq_iff_eq.mpr c163
                        have c163b1 : (t606 != 0) = false := bne_eq_false_iff_eq.mpr c163
                        clear c163
                        replace H := Option.bind_eq_some_iff.mp H
                        obtain ⟨⟨t641, t644⟩, A1640, H⟩ := H
                        dsimp only at H
                        have A164 := Aside0.mk A1640
                        clear A1640
                        replace H := Option.bind_eq_some_iff.mp H
                        obtain ⟨t645, A1650, H⟩ := H
                        have A165 := Aside0.mk A1650
                        clear A1650
                        by_cases c166 : t645 = true
                        · subst c166
                          have H1 : (if (t641.length : Int) = (wrap64 ((t627.length : Int) + 1)) then (if 0 ≤ (t627.length : Int) then (if (t627.length : Int) ≤ (t641.length : Int) then ((laws_vRecords.f kj146 (t641.take ((t627.length : Int) : Int).toNat) t627).bind fun t650 => (if t650 = true then (if (t627.length : Int) < (t641.length : Int) then (some ((((rd_T27 t641 (t627.length : Int)).f0).toList) == t599.toList && ((((rd_T27 t641 (t627.length : Int)).f1).toList) == t600.toList))) else (none)) else (some false))) else (none)) else (none)) else (some false)) = some true := by rw [if_pos rfl] at H; exact H
                          clear H
                          have H := H1
                          clear H1
                          by_cases c167 : (t641.length : Int) = (wrap64 ((t627.length : Int) + 1))
                          · rw [if_pos c167] at H
                            have c167b0 : ((t641.length : Int) == (wrap64 ((t627.length : Int) + 1))) = true := beq_iff_eq.mpr c167
                            have c167b1 : ((t641.length : Int) != (wrap64 ((t627.length : Int) + 1))) = false := bne_eq_false_iff_eq.mpr c167
                            clear c167
                            by_cases c168 : 0 ≤ (t627.length : Int)
                            · rw [if_pos c168] at H
                              have c168b0 := eq_true c168
                              have c168b1 : decide (0 ≤ (t627.length : Int)) = true := decide_eq_true c168
                              clear c168
                              by_cases c169 : (t627.length : Int) ≤ (t641.length : Int)
                              · rw [if_pos c169] at H
                                have c169b0 := eq_true c169
                                have c169b1 : decide ((t627.length : Int) ≤ (t641.length : Int)) = true := decide_eq_true c169
                                clear c169
                                obtain ⟨y646, hy646⟩ : ∃ y_ : List (S27), y_ = (t641.take ((t627.length : Int) : Int).toNat) := ⟨_, rfl⟩
                                replace H : ((laws_vRecords.f kj146 y646 t627).bind fun t650 => (if t650 = true then (if (t627.length : Int) < (t641.length : Int) then (some ((((rd_T27 t641 (t627.length : Int)).f0).toList) == t599.toList && ((((rd_T27 t641 (t627.length : Int)).f1).toList) == t600.toList))) else (none)) else (some false))) = some true := by first | (rw [hy646]; with_reducible exact H) | (have H2_ := (Option.bind_some _ _).symm.trans H; rw [hy646]; with_reducible exact H2_) | (have H2_ := (Option.bind_some _ _).symm.trans H; with_reducible exact H2_) | with_reducible exact H | (rw [hy646]; exact H) | exact H
                                have Ny646 := Aside0.mk hy646
                                clear hy646
                                replace H := Option.bind_eq_some_iff.mp H
                                obtain ⟨t650, A1700, H⟩ := H
                                have A170 := Aside0.mk A1700
                                clear A1700
                                by_cases c171 : t650 = true
                                · subst c171
                                  have H1 : (if (t627.length : Int) < (t641.length : Int) then (some ((((rd_T27 t641 (t627.length : Int)).f0).toList) == t599.toList && ((((rd_T27 t641 (t627.length : Int)).f1).toList) == t600.toList))) else (none)) = some true := by rw [if_pos rfl] at H; exact H
                                  clear H
                                  have H := H1
                                  clear H1
                                  by_cases c172 : (t627.length : Int) < (t641.length : Int)
                                  · rw [if_pos c172] at H
                                    have c172b0 : decide ((t627.length : Int) < (t641.length : Int)) = true := decide_eq_true c172
                                    have c172b1 : decide (t627.length < t641.length) = true := decide_eq_true (Int.ofNat_lt.mp c172)
                                    clear c172
                                    have he_ := Option.some.inj H
                                    have hnb173 := NB607_574.out
                                    have hnc173 := NB574_607.out
                                    have hnb174 := NB607_581.out
                                    have hnc174 := NB581_607.out
                                    have hnb175 := NB607_592.out
                                    have hnc175 := NB592_607.out
                                    have hnb176 := NB607_601.out
                                    have hnc176 := NB601_607.out
                                    have hnb177 := NB607_602.out
                                    have hnc177 := NB602_607.out
                                    have hnb178 := NB607_612.out
                                    have hnc178 := NB612_607.out
                                    have hnb179 := NB607_621.out
                                    have hnc179 := NB621_607.out
                                    have hnb180 := NB607_626.out
                                    have hnc180 := NB626_607.out
                                    have hcz181_0 : wc.cell? ⟨gb607, 0, none⟩ = some (.string t603) := (blk_cell BK607.out 0).trans rfl
                                    have hcz181_1 : wc.cell? ⟨gb607, 1, none⟩ = some (.string t604) := (blk_cell BK607.out 1).trans rfl
                                    have hcz181_2 : wc.cell? ⟨gb607, 2, none⟩ = some (.int .i64 t605) := (blk_cell BK607.out 2).trans rfl
                                    have hfz181_0 := blk_frozen BK607.out 0
                                    have hfz181_1 := blk_frozen BK607.out 1
                                    have hfz181_2 := blk_frozen BK607.out 2
                                    try go_wp2_with (first | ((with_reducible refine gate_callee (f := 30) rfl ?_); refine goesL_ (some 162) rfl rfl Tryd.func30 (by kernel_rfl) rfl #[.agg #[.string t603, .string t604, .int .i64 t605]] rfl (by (try simp only [List.map_toArray, List.map_cons, List.map_nil]); first | done | rfl | (simp only [List.length_drop, List.length_take]; rfl)) ?_; (with_reducible refine (impl_LogRecords.calls kj146 t603 t604 t605 t641 t644 _ ?side1 A164.out).mono ?_); (case side1 => exact GT.below hG_.out (by repeat (first | (with_reducible first | exact HB.out | apply below_alloc | apply pw_below_drewN | apply below_drew1 | refine below_set ?_ GE574.out | refine below_set ?_ GE581.out | refine below_set ?_ GE592.out | refine below_set ?_ GE601.out | refine below_set ?_ GE602.out | refine below_set ?_ GE607.out | refine below_set ?_ GE612.out | refine below_set ?_ GE621.out | refine below_set ?_ GE626.out) | exact HB.out)) (Nat.le_refl _)); rintro e w182 ⟨v642, rfl, ho0, hb⟩; refine ⟨_, rfl, ?_⟩; have n0_ := Aside0.mk (Kd.R_elder' (by (with_reducible repeat (first | apply Kd.R_alloc | apply Kd.R_drewN | apply Kd.R_drew)); exact HO_21.out) (Kd.R_base ho0) hb); have n1_ := Aside0.mk (Kd.R_lower (Kd.R_newB (Kd.R_newB (Kd.R_newB (Kd.R_new' ho0 (Kd.R_lt (by (with_reducible repeat (first | apply Kd.R_alloc | apply Kd.R_drewN | apply Kd.R_drew)); exact HO_21.out))) (g := gb574) (o := .cells #[.string t572, .string t573] 27 (0, 0)) (by (with_reducible repeat (first | refine blk_drewN ?_ _ | refine blk_drew ?_ | refine blk_alloc ?_ _)); exact BK574.out)) (g := gb581) (o := .cells #[.string t579, .string t580] 27 (0, 0)) (by (with_reducible repeat (first | refine blk_drewN ?_ _ | refine blk_drew ?_ | refine blk_alloc ?_ _)); exact BK581.out)) (g := gb602) (o := .cells #[.string t599, .string t600] 27 (0, 0)) (by (with_reducible repeat (first | refine blk_drewN ?_ _ | refine blk_drew ?_ | refine blk_alloc ?_ _)); exact BK602.out)) (below_size (by repeat (first | (with_reducible first | exact HB.out | apply below_alloc | apply pw_below_drewN | apply below_drew1 | refine below_set ?_ GE574.out | refine below_set ?_ GE581.out | refine below_set ?_ GE592.out | refine below_set ?_ GE601.out | refine below_set ?_ GE602.out | refine below_set ?_ GE607.out | refine below_set ?_ GE612.out | refine below_set ?_ GE621.out | refine below_set ?_ GE626.out) | exact HB.out)))); have n2_ := Aside0.mk (blk_below BK574.out hb); have n3_ := Aside0.mk (blk_below BK581.out hb); have n4_ := Aside0.mk (blk_below BK592.out hb); have n5_ := Aside0.mk (blk_below BK601.out hb); have n6_ := Aside0.mk (blk_below BK602.out hb); have n7_ := Aside0.mk (blk_below BK607.out hb); have n8_ := Aside0.mk (blk_below BK612.out hb); have n9_ := Aside0.mk (blk_below BK621.out hb); have n10_ := Aside0.mk (blk_below BK626.out hb); have n11_ := Aside0.mk (below_step (by repeat (first | (with_reducible first | exact HB.out | apply below_alloc | apply pw_below_drewN | apply below_drew1 | refine below_set ?_ GE574.out | refine below_set ?_ GE581.out | refine below_set ?_ GE592.out | refine below_set ?_ GE601.out | refine below_set ?_ GE602.out | refine below_set ?_ GE607.out | refine below_set ?_ GE612.out | refine below_set ?_ GE621.out | refine below_set ?_ GE626.out) | exact HB.out)) hb); clear HO_21; clear BK574; clear BK581; clear BK592; clear BK601; clear BK602; clear BK607; clear BK612; clear BK621; clear BK626; clear HB; have HO_21 := n0_; have HO643 := n1_; have BK574 := n2_; have BK581 := n3_; have BK592 := n4_; have BK601 := n5_; have BK602 := n6_; have BK607 := n7_; have BK612 := n8_; have BK621 := n9_; have BK626 := n10_; have HB := n11_; clear n0_ n1_ n2_ n3_ n4_ n5_ n6_ n7_ n8_ n9_ n10_ n11_; (try clear hb); (try clear hb2); (try clear hk); (try clear hi); (try clear ho0)))
                                    have n0_ := Aside0.mk (Kd.R_drew HO_21.out)
                                    have n1_ := Aside0.mk (Kd.R_drew HO643.out)
                                    have n2_ := Aside0.mk (blk_drew BK574.out)
                                    have n3_ := Aside0.mk (blk_drew BK581.out)
                                    have n4_ := Aside0.mk (blk_drew BK592.out)
                                    have n5_ := Aside0.mk (blk_drew BK601.out)
                                    have n6_ := Aside0.mk (blk_drew BK602.out)
                                    have n7_ := Aside0.mk (blk_drew BK607.out)
                                    have n8_ := Aside0.mk (blk_drew BK612.out)
                                    have n9_ := Aside0.mk (blk_drew BK621.out)
                                    have n10_ := Aside0.mk (blk_drew BK626.out)
                                    have n11_ := Aside0.mk (below_drew1 HB.out)
                                    clear HO_21
                                    clear HO643
                                    clear BK574
                                    clear BK581
                                    clear BK592
                                    clear BK601
                                    clear BK602
                                    clear BK607
                                    clear BK612
                                    clear BK621
                                    clear BK626
                                    clear HB
                                    have HO_21 := n0_
                                    have HO643 := n1_
                                    have BK574 := n2_
                                    have BK581 := n3_
                                    have BK592 := n4_
                                    have BK601 := n5_
                                    have BK602 := n6_
                                    have BK607 := n7_
                                    have BK612 := n8_
                                    have BK621 := n9_
                                    have BK626 := n10_
                                    have HB := n11_
                                    clear n0_ n1_ n2_ n3_ n4_ n5_ n6_ n7_ n8_ n9_ n10_ n11_
                                    obtain ⟨Ao185, co185, eo185⟩ := Kd.R_slice HO643.out
                                    subst eo185
                                    have p651 : 0 ≤ ((t627.length : Int) : Int) := of_decide_eq_true (by first | (with_reducible assumption) | assumption)
                                    have q651 : (t627.length : Int) < (t641.length : Int) := of_decide_eq_true (by first | (with_reducible assumption) | assumption)
                                    obtain ⟨ad651, e651, hx651_0, hx651_1⟩ := at_T27 (Kd.R_reads' HO643.out).2.2 (t627.length : Int) p651 q651
                                    cases e651
                                    (try simp only [Go.IntWalk.toNatUp] at hx651_0)
                                    (try simp only [Go.IntWalk.toNatUp] at hx651_1)
                                    replace p651 := eq_true p651
                                    replace q651 := eq_true q651
                                    refine start_ (n := 28) (S := fun w' => w'.cell? ⟨gb607, 0, none⟩ = some (.string t603) ∧ w'.cell? ⟨gb607, 1, none⟩ = some (.string t604) ∧ w'.cell? ⟨gb607, 2, none⟩ = some (.int .i64 t605) ∧ w'.cell? ⟨gb602, 0, none⟩ = some (.string t599) ∧ w'.cell? ⟨gb602, 1, none⟩ = some (.string t600) ∧ w'.cell? (ad651.add (t627.length * 2)) = some (.string ((rd_T27 t641 (t627.length : Int)).f0)) ∧ w'.cell? ⟨(ad651.add (t627.length * 2)).block, (ad651.add (t627.length * 2)).off + 1, none⟩ = some (.string ((rd_T27 t641 (t627.length : Int)).f1))) (ds := []) #[false, false, false, false, false, false, false, false, false, false, false, false, false, false, false, false, false, false, false, false, false, false, false, false, false, false, false, false] (by kernel_rfl) rfl rfl ⟨(blk_cell BK607.out 0).trans rfl, (blk_cell BK607.out 1).trans rfl, (blk_cell BK607.out 2).trans rfl, (blk_cell BK602.out 0).trans rfl, (blk_cell BK602.out 1).trans rfl, hx651_0, hx651_1⟩ (fun hHeld => ?_); refine with_tabW laws_FnLogs.tab25 laws_FnLogs.bits25 (fun HT_ HW_ => ?_)
                                    generalize w182.drew = w183 at HO_21 HO643 BK574 BK581 BK592 BK601 BK602 BK607 BK612 BK621 BK626 HB hx651_0 hx651_1 hHeld ⊢
                                    refine take_ (i := 0) (N := some 165) (v := ?_) (a' := ?_) #[true, false, false, false, false, false, false, false, false, false, false, false, false, false, false, false, false, false, false, false, false, false, false, false, false, false, false, false] rfl rfl (take_ofW HT_.out HW_.out (by kernel_rfl)) (fun _ _ _ h => h) (Or.inl ⟨by rfl, ?_⟩) hHeld ?_ ?_
                                    rotate_left
                                    · rintro w' ⟨s0, s1, s2, s3, s4, s5, s6⟩
                                      go_simp
                                      with_reducible rfl
                                    rotate_left
                                    · simp only [Act.put, List.setIfInBounds_toArray, List.set_cons_zero, List.set_cons_succ, i64_w, i32_w]
                                      rfl
                                    refine one_ (i := 1) (N := some 166) #[true, true, false, false, false, false, false, false, false, false, false, false, false, false, false, false, false, false, false, false, false, false, false, false, false, false, false, false] rfl rfl (one_of HT_.out (by kernel_rfl)) (by decide) (fun K hK => ?_)
                                    refine goes_ Tryd.func22 (by kernel_rfl) rfl #[.agg #[.string t603, .string t604, .int .i64 t605]] (by rfl) rfl rfl (by (try simp only [List.map_toArray, List.map_cons, List.map_nil]); first | done | rfl | (simp only [List.length_drop, List.length_take]; rfl)) ?_
                                    with_reducible refine (impl_IsValidLog.calls kj146 t603 t604 t605 true _ ?side1 A165.out).mono ?_
                                    (case side1 => exact GT.below hG_.out (by repeat (first | (with_reducible first | exact HB.out | apply below_alloc | apply pw_below_drewN | apply below_drew1 | refine below_set ?_ GE574.out | refine below_set ?_ GE581.out | refine below_set ?_ GE592.out | refine below_set ?_ GE601.out | refine below_set ?_ GE602.out | refine below_set ?_ GE607.out | refine below_set ?_ GE612.out | refine below_set ?_ GE621.out | refine below_set ?_ GE626.out) | exact HB.out)) (Nat.le_refl _))
                                    rintro e w184 ⟨rfl, hb⟩
                                    have HS5_ := (hb.cell (World.block_lt_of_cell? _ _ (hHeld.2.2.2.2.2.1))).trans (hHeld.2.2.2.2.2.1)
                                    have HS6_ := (hb.cell (World.block_lt_of_cell? _ _ (hHeld.2.2.2.2.2.2))).trans (hHeld.2.2.2.2.2.2)
                                    refine ⟨_, rfl, ?_⟩
                                    have n0_ := Aside0.mk (Kd.R_below (by (with_reducible repeat (first | apply Kd.R_alloc | apply Kd.R_drewN | apply Kd.R_drew)); exact HO_21.out) hb)
                                    have n1_ := Aside0.mk (Kd.R_below (by (with_reducible repeat (first | apply Kd.R_alloc | apply Kd.R_drewN | apply Kd.R_drew)); exact HO643.out) hb)
                                    have n2_ := Aside0.mk (blk_below BK574.out hb)
                                    have n3_ := Aside0.mk (blk_below BK581.out hb)
                                    have n4_ := Aside0.mk (blk_below BK592.out hb)
                                    have n5_ := Aside0.mk (blk_below BK601.out hb)
                                    have n6_ := Aside0.mk (blk_below BK602.out hb)
                                    have n7_ := Aside0.mk (blk_below BK607.out hb)
                                    have n8_ := Aside0.mk (blk_below BK612.out hb)
                                    have n9_ := Aside0.mk (blk_below BK621.out hb)
                                    have n10_ := Aside0.mk (blk_below BK626.out hb)
                                    have n11_ := Aside0.mk (below_step (by repeat (first | (with_reducible first | exact HB.out | apply below_alloc | apply pw_below_drewN | apply below_drew1 | refine below_set ?_ GE574.out | refine below_set ?_ GE581.out | refine below_set ?_ GE592.out | refine below_set ?_ GE601.out | refine below_set ?_ GE602.out | refine below_set ?_ GE607.out | refine below_set ?_ GE612.out | refine below_set ?_ GE621.out | refine below_set ?_ GE626.out) | exact HB.out)) hb)
                                    clear HO_21
                                    clear HO643
                                    clear BK574
                                    clear BK581
                                    clear BK592
                                    clear BK601
                                    clear BK602
                                    clear BK607
                                    clear BK612
                                    clear BK621
                                    clear BK626
                                    clear HB
                                    have HO_21 := n0_
                                    have HO643 := n1_
                                    have BK574 := n2_
                                    have BK581 := n3_
                                    have BK592 := n4_
                                    have BK601 := n5_
                                    have BK602 := n6_
                                    have BK607 := n7_
                                    have BK612 := n8_
                                    have BK621 := n9_
                                    have BK626 := n10_
                                    have HB := n11_
                                    clear n0_ n1_ n2_ n3_ n4_ n5_ n6_ n7_ n8_ n9_ n10_ n11_
                                    (try clear hb)
                                    (try clear hb2)
                                    (try clear hk)
                                    (try clear hi)
                                    obtain ⟨Ao186, co186, eo186⟩ := Kd.R_slice HO_21.out
                                    (first | subst eo186 | (injection eo186 with f1_ f2_ f3_; have f4_ := f1_.symm; have f5_ := f3_.symm; clear f1_ f2_ f3_; subst f4_; subst f5_))
                                    have q187 : ((t627.length : Int) : Int) ≤ ((t641.length : Int) : Int) := of_decide_eq_true (by first | (with_reducible assumption) | assumption)
                                    obtain ⟨i0187, hi0187, _, hsz187, _⟩ := info_parts info27
                                    have hroom187 : t641.length ≤ co185 := (Kd.R_reads' HO643.out).2.1
                                    have hC187 : Kd.C k27 _ (some ad651) t641.length t641 := (Kd.R_reads' HO643.out).2.2
                                    have hcut187 := cut_to (P := Tryd.prog) 48 27 .i64 Tryd.underlying48 hi0187 (some ad651) t641.length co185 (t627.length : Int) (of_decide_eq_true (by first | (with_reducible assumption) | assumption)) q187 hroom187
                                    have hr187 := Kd.C_take (m := ((t627.length : Int) : Int).toNat) hC187 (by omega)
                                    have hy187 : y646.length = ((t627.length : Int) : Int).toNat := (by rw [Ny646.out, List.length_take]; omega)
                                    rw [← Ny646.out] at hr187
                                    rw [← hy187] at hcut187
                                    have HR649 := Aside0.mk hr187
                                    have HC649 := Aside0.mk (show y646.length ≤ co185 from by omega)
                                    clear hr187 hC187 hroom187 hi0187 hsz187
                                    have KY187 := Aside0.mk hy187
                                    clear hy187
                                    have KL187 := Aside0.mk (show ((t627.length : Int) : Int).toNat ≤ t641.length from by omega)
                                    replace q187 := eq_true q187
                                    refine hK.out _ _ ⟨(blk_cell BK607.out 0).trans rfl, (blk_cell BK607.out 1).trans rfl, (blk_cell BK607.out 2).trans rfl, (blk_cell BK602.out 0).trans rfl, (blk_cell BK602.out 1).trans rfl, HS5_, HS6_⟩ (fun hHeld => ?_)
                                    clear hK K
                                    refine norm_ (a' := ?_) ?_ ?_
                                    rotate_left
                                    · show Act.put _ (some 166) _ = _
                                      simp only [Act.put, List.setIfInBounds_toArray, List.set_cons_zero, List.set_cons_succ, i64_w, i32_w]
                                      rfl
                                    refine pure_ (i := 2) (N := some 167) (v := ?_) (a' := ?_) #[true, true, true, false, false, false, false, false, false, false, false, false, false, false, false, false, false, false, false, false, false, false, false, false, false, false, false, false] rfl rfl (any_of HT_.out (by kernel_rfl)) (fun _ _ _ h => h) (Or.inl ⟨by rfl, ?_⟩) ?_ ?_
                                    rotate_left
                                    · intro w'
                                      go_simp
                                      with_reducible rfl
                                    rotate_left
                                    · simp only [Act.put, List.setIfInBounds_toArray, List.set_cons_zero, List.set_cons_succ, i64_w, i32_w]
                                      rfl
                                    refine pure_ (i := 3) (N := some 168) (v := ?_) (a' := ?_) #[true, true, true, true, false, false, false, false, false, false, false, false, false, false, false, false, false, false, false, false, false, false, false, false, false, false, false, false] rfl rfl (any_of HT_.out (by kernel_rfl)) (fun _ _ _ h => h) (Or.inl ⟨by rfl, ?_⟩) ?_ ?_
                                    rotate_left
                                    · intro w'
                                      go_simp
                                      with_reducible rfl
                                    rotate_left
                                    · simp only [Act.put, List.setIfInBounds_toArray, List.set_cons_zero, List.set_cons_succ, i64_w, i32_w]
                                      rfl
                                    refine pure_ (i := 4) (N := some 169) (v := ?_) (a' := ?_) #[true, true, true, true, true, false, false, false, false, false, false, false, false, false, false, false, false, false, false, false, false, false, false, false, false, false, false, false] rfl rfl (any_of HT_.out (by kernel_rfl)) (fun _ _ _ h => h) (Or.inl ⟨by rfl, ?_⟩) ?_ ?_
                                    rotate_left
                                    · intro w'
                                      go_simp
                                      with_reducible rfl
                                    rotate_left
                                    · simp only [Act.put, List.setIfInBounds_toArray, List.set_cons_zero, List.set_cons_succ, i64_w, i32_w]
                                      rfl
                                    refine pure_ (i := 5) (N := some 170) (v := ?_) (a' := ?_) #[true, true, true, true, true, true, false, false, false, false, false, false, false, false, false, false, false, false, false, false, false, false, false, false, false, false, false, false] rfl rfl (any_of HT_.out (by kernel_rfl)) (fun _ _ _ h => h) (Or.inl ⟨by rfl, ?_⟩) ?_ ?_
                                    rotate_left
                                    · intro w'
                                      go_simp
                                      with_reducible rfl
                                    rotate_left
                                    · simp only [Act.put, List.setIfInBounds_toArray, List.set_cons_zero, List.set_cons_succ, i64_w, i32_w]
                                      rfl
                                    refine pure_ (i := 6) (N := some 171) (v := ?_) (a' := ?_) #[true, true, true, true, true, true, true, false, false, false, false, false, false, false, false, false, false, false, false, false, false, false, false, false, false, false, false, false] rfl rfl (any_of HT_.out (by kernel_rfl)) (fun _ _ _ h => h) (Or.inl ⟨by rfl, ?_⟩) ?_ ?_
                                    rotate_left
                                    · intro w'
                                      go_simp
                                      with_reducible rfl
                                    rotate_left
                                    · simp only [Act.put, List.setIfInBounds_toArray, List.set_cons_zero, List.set_cons_succ, i64_w, i32_w]
                                      rfl
                                    refine pure_ (i := 7) (N := some 172) (v := ?_) (a' := ?_) #[true, true, true, true, true, true, true, true, false, false, false, false, false, false, false, false, false, false, false, false, false, false, false, false, false, false, false, false] rfl rfl (any_of HT_.out (by kernel_rfl)) (fun _ _ _ h => h) (Or.inl ⟨by rfl, ?_⟩) ?_ ?_
                                    rotate_left
                                    · intro w'
                                      go_simp
                                      with_reducible rfl
                                    rotate_left
                                    · simp only [Act.put, List.setIfInBounds_toArray, List.set_cons_zero, List.set_cons_succ, i64_w, i32_w]
                                      rfl
                                    refine pure_ (i := 8) (N := some 173) (v := ?_) (a' := ?_) #[true, true, true, true, true, true, true, true, true, false, false, false, false, false, false, false, false, false, false, false, false, false, false, false, false, false, false, false] rfl rfl (any_of HT_.out (by kernel_rfl)) (fun _ _ _ h => h) (Or.inl ⟨by rfl, ?_⟩) ?_ ?_
                                    rotate_left
                                    · intro w'
                                      go_simp
                                      with_reducible rfl
                                    rotate_left
                                    · simp only [Act.put, List.setIfInBounds_toArray, List.set_cons_zero, List.set_cons_succ, i64_w, i32_w]
                                      rfl
                                    refine pure_ (i := 9) (N := some 174) (v := ?_) (a' := ?_) #[true, true, true, true, true, true, true, true, true, true, false, false, false, false, false, false, false, false, false, false, false, false, false, false, false, false, false, false] rfl rfl (any_of HT_.out (by kernel_rfl)) (fun _ _ _ h => h) (Or.inl ⟨by rfl, ?_⟩) ?_ ?_
                                    rotate_left
                                    · intro w'
                                      go_simp
                                      with_reducible rfl
                                    rotate_left
                                    · simp only [Act.put, List.setIfInBounds_toArray, List.set_cons_zero, List.set_cons_succ, i64_w, i32_w]
                                      rfl
                                    refine pure_ (i := 10) (N := some 175) (v := ?_) (a' := ?_) #[true, true, true, true, true, true, true, true, true, true, true, false, false, false, false, false, false, false, false, false, false, false, false, false, false, false, false, false] rfl rfl (any_of HT_.out (by kernel_rfl)) (fun _ _ _ h => h) (Or.inl ⟨by rfl, ?_⟩) ?_ ?_
                                    rotate_left
                                    · intro w'
                                      go_simp
                                      with_reducible rfl
                                    rotate_left
                                    · simp only [Act.put, List.setIfInBounds_toArray, List.set_cons_zero, List.set_cons_succ, i64_w, i32_w]
                                      rfl
                                    refine pure_ (i := 11) (N := some 176) (v := ?_) (a' := ?_) #[true, true, true, true, true, true, true, true, true, true, true, true, false, false, false, false, false, false, false, false, false, false, false, false, false, false, false, false] rfl rfl (any_of HT_.out (by kernel_rfl)) (fun _ _ _ h => h) (Or.inl ⟨by rfl, ?_⟩) ?_ ?_
                                    rotate_left
                                    · intro w'
                                      go_simp
                                      with_reducible rfl
                                    rotate_left
                                    · simp only [Act.put, List.setIfInBounds_toArray, List.set_cons_zero, List.set_cons_succ, i64_w, i32_w]
                                      rfl
                                    refine pure_ (i := 12) (N := some 177) (v := ?_) (a' := ?_) #[true, true, true, true, true, true, true, true, true, true, true, true, true, false, false, false, false, false, false, false, false, false, false, false, false, false, false, false] rfl rfl (any_of HT_.out (by kernel_rfl)) (fun _ _ _ h => h) (Or.inl ⟨by rfl, ?_⟩) ?_ ?_
                                    rotate_left
                                    · intro w'
                                      go_simp
                                      with_reducible rfl
                                    rotate_left
                                    · simp only [Act.put, List.setIfInBounds_toArray, List.set_cons_zero, List.set_cons_succ, i64_w, i32_w]
                                      rfl
                                    refine pure_ (i := 13) (N := some 178) (v := ?_) (a' := ?_) #[true, true, true, true, true, true, true, true, true, true, true, true, true, true, false, false, false, false, false, false, false, false, false, false, false, false, false, false] rfl rfl (any_of HT_.out (by kernel_rfl)) (fun _ _ _ h => h) (Or.inl ⟨by rfl, ?_⟩) ?_ ?_
                                    rotate_left
                                    · intro w'
                                      go_simp
                                      with_reducible rfl
                                    rotate_left
                                    · simp only [Act.put, List.setIfInBounds_toArray, List.set_cons_zero, List.set_cons_succ, i64_w, i32_w]
                                      rfl
                                    refine pure_ (i := 14) (N := some 179) (v := ?_) (a' := ?_) #[true, true, true, true, true, true, true, true, true, true, true, true, true, true, true, false, false, false, false, false, false, false, false, false, false, false, false, false] rfl rfl (any_of HT_.out (by kernel_rfl)) (fun _ _ _ h => h) (Or.inl ⟨by rfl, ?_⟩) ?_ ?_
                                    rotate_left
                                    · intro w'
                                      go_simp
                                      with_reducible rfl
                                    rotate_left
                                    · simp only [Act.put, List.setIfInBounds_toArray, List.set_cons_zero, List.set_cons_succ, i64_w, i32_w]
                                      rfl
                                    refine pure_ (i := 15) (N := some 180) (v := ?_) (a' := ?_) #[true, true, true, true, true, true, true, true, true, true, true, true, true, true, true, true, false, false, false, false, false, false, false, false, false, false, false, false] rfl rfl (any_of HT_.out (by kernel_rfl)) (fun _ _ _ h => h) (Or.inl ⟨by rfl, ?_⟩) ?_ ?_
                                    rotate_left
                                    · intro w'
                                      go_simp
                                      with_reducible rfl
                                    rotate_left
                                    · simp only [Act.put, List.setIfInBounds_toArray, List.set_cons_zero, List.set_cons_succ, i64_w, i32_w]
                                      rfl
                                    refine one_ (i := 16) (N := some 181) #[true, true, true, true, true, true, true, true, true, true, true, true, true, true, true, true, true, false, false, false, false, false, false, false, false, false, false, false] rfl rfl (one_of HT_.out (by kernel_rfl)) (by decide) (fun K hK => ?_)
                                    refine goes_ Tryd.func42 (by kernel_rfl) rfl #[.slice (some ad651) y646.length co185, .slice Ao186 t627.length co186] (by rfl) rfl rfl (by (try simp only [List.map_toArray, List.map_cons, List.map_nil]); first | done | rfl | (simp only [List.length_drop, List.length_take]; rfl)) ?_
                                    with_reducible refine (laws_vRecords.calls kj146 _ _ y646 _ _ t627 true _ ?side1 ?side2 ?side3 ?side4 A170.out).mono ?_
                                    (case side1 => repeat (first | exact (by repeat (first | (with_reducible exact HR649.out) | (with_reducible refine Kd.C_alloc ?_ _) | (with_reducible refine Kd.C_drewN ?_ _) | (with_reducible refine Kd.C_drew ?_) | exact HR649.out)) | (with_reducible refine Kd.C_alloc ?_ _) | (with_reducible refine Kd.C_drewN ?_ _) | (with_reducible refine Kd.C_drew ?_)))
                                    (case side2 => exact HC649.out)
                                    (case side3 => repeat (first | exact (Kd.R_reads' HO_21.out).2.2 | (with_reducible refine Kd.C_alloc ?_ _) | (with_reducible refine Kd.C_drewN ?_ _) | (with_reducible refine Kd.C_drew ?_)))
                                    (case side4 => exact (Kd.R_reads' HO_21.out).2.1)
                                    rintro e w' ⟨rfl, ⟨nd, rfl⟩⟩
                                    refine ⟨_, rfl, ?_⟩
                                    refine hK.out _ _ ⟨(blk_cell BK607.out 0).trans rfl, (blk_cell BK607.out 1).trans rfl, (blk_cell BK607.out 2).trans rfl, (blk_cell BK602.out 0).trans rfl, (blk_cell BK602.out 1).trans rfl, hHeld.2.2.2.2.2.1, hHeld.2.2.2.2.2.2⟩ (fun hHeld => ?_)
                                    clear hK K
                                    refine norm_ (a' := ?_) ?_ ?_
                                    rotate_left
                                    · show Act.put _ (some 181) _ = _
                                      simp only [Act.put, List.setIfInBounds_toArray, List.set_cons_zero, List.set_cons_succ, i64_w, i32_w]
                                      rfl
                                    refine pure_ (i := 17) (N := some 182) (v := ?_) (a' := ?_) #[true, true, true, true, true, true, true, true, true, true, true, true, true, true, true, true, true, true, false, false, false, false, false, false, false, false, false, false] rfl rfl (any_of HT_.out (by kernel_rfl)) (fun _ _ _ h => h) (Or.inl ⟨by rfl, ?_⟩) ?_ ?_
                                    rotate_left
                                    · intro w'
                                      go_simp
                                      with_reducible rfl
                                    rotate_left
                                    · simp only [Act.put, List.setIfInBounds_toArray, List.set_cons_zero, List.set_cons_succ, i64_w, i32_w]
                                      rfl
                                    refine pure_ (i := 18) (N := some 183) (v := ?_) (a' := ?_) #[true, true, true, true, true, true, true, true, true, true, true, true, true, true, true, true, true, true, true, false, false, false, false, false, false, false, false, false] rfl rfl (any_of HT_.out (by kernel_rfl)) (fun _ _ _ h => h) (Or.inl ⟨by rfl, ?_⟩) ?_ ?_
                                    rotate_left
                                    · intro w'
                                      go_simp
                                      with_reducible rfl
                                    rotate_left
                                    · simp only [Act.put, List.setIfInBounds_toArray, List.set_cons_zero, List.set_cons_succ, i64_w, i32_w]
                                      rfl
                                    refine pure_ (i := 19) (N := some 184) (v := ?_) (a' := ?_) #[true, true, true, true, true, true, true, true, true, true, true, true, true, true, true, true, true, true, true, true, false, false, false, false, false, false, false, false] rfl rfl (any_of HT_.out (by kernel_rfl)) (fun _ _ _ h => h) (Or.inl ⟨by rfl, ?_⟩) ?_ ?_
                                    rotate_left
                                    · intro w'
                                      go_simp
                                      with_reducible rfl
                                    rotate_left
                                    · simp only [Act.put, List.setIfInBounds_toArray, List.set_cons_zero, List.set_cons_succ, i64_w, i32_w]
                                      rfl
                                    refine pure_ (i := 20) (N := some 185) (v := ?_) (a' := ?_) #[true, true, true, true, true, true, true, true, true, true, true, true, true, true, true, true, true, true, true, true, true, false, false, false, false, false, false, false] rfl rfl (any_of HT_.out (by kernel_rfl)) (fun _ _ _ h => h) (Or.inl ⟨by rfl, ?_⟩) ?_ ?_
                                    rotate_left
                                    · intro w'
                                      go_simp
                                      with_reducible rfl
                                    rotate_left
                                    · simp only [Act.put, List.setIfInBounds_toArray, List.set_cons_zero, List.set_cons_succ, i64_w, i32_w]
                                      rfl
                                    refine pure_ (i := 21) (N := some 186) (v := ?_) (a' := ?_) #[true, true, true, true, true, true, true, true, true, true, true, true, true, true, true, true, true, true, true, true, true, true, false, false, false, false, false, false] rfl rfl (any_of HT_.out (by kernel_rfl)) (fun _ _ _ h => h) (Or.inl ⟨by rfl, ?_⟩) ?_ ?_
                                    rotate_left
                                    · intro w'
                                      go_simp
                                      with_reducible rfl
                                    rotate_left
                                    · simp only [Act.put, List.setIfInBounds_toArray, List.set_cons_zero, List.set_cons_succ, i64_w, i32_w]
                                      rfl
                                    refine pure_ (i := 22) (N := some 187) (v := ?_) (a' := ?_) #[true, true, true, true, true, true, true, true, true, true, true, true, true, true, true, true, true, true, true, true, true, true, true, false, false, false, false, false] rfl rfl (any_of HT_.out (by kernel_rfl)) (fun _ _ _ h => h) (Or.inl ⟨by rfl, ?_⟩) ?_ ?_
                                    rotate_left
                                    · intro w'
                                      go_simp
                                      with_reducible rfl
                                    rotate_left
                                    · simp only [Act.put, List.setIfInBounds_toArray, List.set_cons_zero, List.set_cons_succ, i64_w, i32_w]
                                      rfl
                                    refine take_ (i := 23) (N := some 188) (v := ?_) (a' := ?_) #[true, true, true, true, true, true, true, true, true, true, true, true, true, true, true, true, true, true, true, true, true, true, true, true, false, false, false, false] rfl rfl (take_ofW HT_.out HW_.out (by kernel_rfl)) (fun _ _ _ h => h) (Or.inl ⟨by rfl, ?_⟩) hHeld ?_ ?_
                                    rotate_left
                                    · rintro w' ⟨s0, s1, s2, s3, s4, s5, s6⟩
                                      go_simp
                                      with_reducible rfl
                                    rotate_left
                                    · simp only [Act.put, List.setIfInBounds_toArray, List.set_cons_zero, List.set_cons_succ, i64_w, i32_w]
                                      rfl
                                    refine take_ (i := 24) (N := some 189) (v := ?_) (a' := ?_) #[true, true, true, true, true, true, true, true, true, true, true, true, true, true, true, true, true, true, true, true, true, true, true, true, true, false, false, false] rfl rfl (take_ofW HT_.out HW_.out (by kernel_rfl)) (fun _ _ _ h => h) (Or.inl ⟨by rfl, ?_⟩) hHeld ?_ ?_
                                    rotate_left
                                    · rintro w' ⟨s0, s1, s2, s3, s4, s5, s6⟩
                                      go_simp
                                      with_reducible rfl
                                    rotate_left
                                    · simp only [Act.put, List.setIfInBounds_toArray, List.set_cons_zero, List.set_cons_succ, i64_w, i32_w]
                                      rfl
                                    refine pure_ (i := 25) (N := some 190) (v := ?_) (a' := ?_) #[true, true, true, true, true, true, true, true, true, true, true, true, true, true, true, true, true, true, true, true, true, true, true, true, true, true, false, false] rfl rfl (any_of HT_.out (by kernel_rfl)) (fun _ _ _ h => h) (Or.inl ⟨by rfl, ?_⟩) ?_ ?_
                                    rotate_left
                                    · intro w'
                                      go_simp
                                      with_reducible rfl
                                    rotate_left
                                    · simp only [Act.put, List.setIfInBounds_toArray, List.set_cons_zero, List.set_cons_succ, i64_w, i32_w]
                                      rfl
                                    refine pure_ (i := 26) (N := some 191) (v := ?_) (a' := ?_) #[true, true, true, true, true, true, true, true, true, true, true, true, true, true, true, true, true, true, true, true, true, true, true, true, true, true, true, false] rfl rfl (any_of HT_.out (by kernel_rfl)) (fun _ _ _ h => h) (Or.inl ⟨by rfl, ?_⟩) ?_ ?_
                                    rotate_left
                                    · intro w'
                                      go_simp
                                      with_reducible rfl
                                    rotate_left
                                    · simp only [Act.put, List.setIfInBounds_toArray, List.set_cons_zero, List.set_cons_succ, i64_w, i32_w]
                                      rfl
                                    refine pure_ (i := 27) (N := some 2) (v := ?_) (a' := ?_) #[true, true, true, true, true, true, true, true, true, true, true, true, true, true, true, true, true, true, true, true, true, true, true, true, true, true, true, true] rfl rfl (any_of HT_.out (by kernel_rfl)) (fun _ _ _ h => h) (Or.inl ⟨by rfl, ?_⟩) ?_ ?_
                                    rotate_left
                                    · intro w'
                                      go_simp
                                      with_reducible rfl
                                    rotate_left
                                    · simp only [Act.put, List.setIfInBounds_toArray, List.set_cons_zero, List.set_cons_succ, i64_w, i32_w]
                                      rfl
                                    refine done_ (done_of HT_.out (by kernel_rfl)) ?_
                                    try go_wp2
                                    go_ret
                                    exact ⟨by first | rfl | (simp [errW_none, errW_some] <;> rfl) | (simp [*, errW_none, errW_some] <;> rfl), by repeat (first | (with_reducible first | exact HB.out | apply below_alloc | apply pw_below_drewN | apply below_drew1 | refine below_set ?_ GE574.out | refine below_set ?_ GE581.out | refine below_set ?_ GE592.out | refine below_set ?_ GE601.out | refine below_set ?_ GE602.out | refine below_set ?_ GE607.out | refine below_set ?_ GE612.out | refine below_set ?_ GE621.out | refine below_set ?_ GE626.out) | exact HB.out)⟩
                                  · rw [if_neg c172] at H
                                    exact absurd H (by simp)
                                · replace c171 := Bool.eq_false_iff.mpr c171
                                  subst c171
                                  have H1 : (some false) = some true := by rw [if_neg (show ¬ (false = true) by decide)] at H; exact H
                                  clear H
                                  have H := H1
                                  clear H1
                                  exact absurd H (by simp)
                              · rw [if_neg c169] at H
                                exact absurd H (by simp)
                            · rw [if_neg c168] at H
                              exact absurd H (by simp)
                          · rw [if_neg c167] at H
                            have c167b0 : ((t641.length : Int) == (wrap64 ((t627.length : Int) + 1))) = false := beq_eq_false_iff_ne.mpr c167
                            have c167b1 : ((t641.length : Int) != (wrap64 ((t627.length : Int) + 1))) = true := bne_iff_ne.mpr c167
                            exact absurd H (by simp)
                        · replace c166 := Bool.eq_false_iff.mpr c166
                          subst c166
                          have H1 : (some false) = some true := by rw [if_neg (show ¬ (false = true) by decide)] at H; exact H
                          clear H
                          have H := H1
                          clear H1
                          exact absurd H (by simp)
                      · rw [if_neg c163] at H
                        have c163b0 : (t606 == 0) = false := beq_eq_false_iff_ne.mpr c163
                        have c163b1 : (t606 != 0) = true := bne_iff_ne.mpr c163
                        have he_ := Option.some.inj H
                        have hnb188 := NB607_574.out
                        have hnc188 := NB574_607.out
                        have hnb189 := NB607_581.out
                        have hnc189 := NB581_607.out
                        have hnb190 := NB607_592.out
                        have hnc190 := NB592_607.out
                        have hnb191 := NB607_601.out
                        have hnc191 := NB601_607.out
                        have hnb192 := NB607_602.out
                        have hnc192 := NB602_607.out
                        have hnb193 := NB607_612.out
                        have hnc193 := NB612_607.out
                        have hnb194 := NB607_621.out
                        have hnc194 := NB621_607.out
                        have hnb195 := NB607_626.out
                        have hnc195 := NB626_607.out
                        have hcz196_0 : wc.cell? ⟨gb607, 0, none⟩ = some (.string t603) := (blk_cell BK607.out 0).trans rfl
                        have hcz196_1 : wc.cell? ⟨gb607, 1, none⟩ = some (.string t604) := (blk_cell BK607.out 1).trans rfl
                        have hcz196_2 : wc.cell? ⟨gb607, 2, none⟩ = some (.int .i64 t605) := (blk_cell BK607.out 2).trans rfl
                        have hfz196_0 := blk_frozen BK607.out 0
                        have hfz196_1 := blk_frozen BK607.out 1
                        have hfz196_2 := blk_frozen BK607.out 2
                        have hnb197 := NB601_574.out
                        have hnc197 := NB574_601.out
                        have hnb198 := NB601_581.out
                        have hnc198 := NB581_601.out
                        have hnb199 := NB601_592.out
                        have hnc199 := NB592_601.out
                        have hnb200 := NB601_602.out
                        have hnc200 := NB602_601.out
                        have hnb201 := NB601_612.out
                        have hnc201 := NB612_601.out
                        have hnb202 := NB601_621.out
                        have hnc202 := NB621_601.out
                        have hnb203 := NB601_626.out
                        have hnc203 := NB626_601.out
                        have hcz204_0 : wc.cell? ⟨gb601, 0, none⟩ = some (.string t596) := (blk_cell BK601.out 0).trans rfl
                        have hcz204_1 : wc.cell? ⟨gb601, 1, none⟩ = some (.string t597) := (blk_cell BK601.out 1).trans rfl
                        have hcz204_2 : wc.cell? ⟨gb601, 2, none⟩ = some (.int .i64 t598) := (blk_cell BK601.out 2).trans rfl
                        have hfz204_0 := blk_frozen BK601.out 0
                        have hfz204_1 := blk_frozen BK601.out 1
                        have hfz204_2 := blk_frozen BK601.out 2
                        go_wp2
                        go_ret
                        exact ⟨by first | rfl | (simp [errW_none, errW_some] <;> rfl) | (simp [*, errW_none, errW_some] <;> rfl), by repeat (first | (with_reducible first | exact HB.out | apply below_alloc | apply pw_below_drewN | apply below_drew1 | refine below_set ?_ GE574.out | refine below_set ?_ GE581.out | refine below_set ?_ GE592.out | refine below_set ?_ GE601.out | refine below_set ?_ GE602.out | refine below_set ?_ GE607.out | refine below_set ?_ GE612.out | refine below_set ?_ GE621.out | refine below_set ?_ GE626.out) | exact HB.out)⟩

/-- THE ONE PURE STATEMENT of laws_FnLogs. -/
def laws_FnLogs.Pure : Prop := ∀ (l0 : List Int), l0.length ≤ maxLen → l0.length * 1 ≤ 140737488351232 → (∀ x ∈ l0, (Lit.int .u8 x).wf = true) → ∃ k, laws_FnLogs.f k l0 = some true
theorem laws_FnLogs.walk (P : laws_FnLogs.Pure) (a0 : Option Addr) (len0 cap0 : Nat) (z0 : List Int) (w : World) (w0 : (a0 = none ∧ len0 = 0 ∧ cap0 = 0 ∧ z0 = []) ∨ ∃ x, a0 = some x ∧ len0 ≤ cap0 ∧ cap0 ≤ maxLen ∧ z0.length = cap0 ∧ (∀ i, i < z0.length → w.cell? (x.add i) = some (.int .u8 (z0.getD i 0))) ∧ ∀ n ∈ z0, (Lit.int .u8 n).wf = true) (y0 : len0 * 1 ≤ 140737488351232) (hG : GT w) :
    Calls Tryd.prog 10 #[.slice a0 len0 cap0] w fun e w' => e = .returned (.bool true) ∧ Below w.heap.size w w' := by
  obtain ⟨l0, rfl, hr0, hm0, hw0, hc0⟩ := ReadsInt.ofRowC w0
  obtain ⟨k, h⟩ := P l0 hm0 y0 hw0
  refine (laws_FnLogs.calls k _ _ l0 w (Kd.C_of_reads (d := (0 : Int)) (h1 := fun _ => rfl) hr0) hc0 hG h).mono ?_
  rintro e w' ⟨rfl, hd⟩
  exact ⟨rfl, hd⟩

/-! ### spec_DrawCrashLog: function 43 -/
end Go.Proofs.YtccbpfconceoeaaDoor.P
