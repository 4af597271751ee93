-- Written by wip/mp.py of this session over the kit's printer; Lean checks it.
import Derived.Test.YtccbpfconceoeaaDoorPx0
import Derived.Test.YtccbpfconceoeaaDoorPx2
import Derived.Test.YtccbpfconceoeaaDoorPx5
import Derived.Test.YtccbpfconceoeaaDoorPx10
import Derived.Test.YtccbpfconceoeaaDoorPx12
import Derived.Test.YtccbpfconceoeaaDoorPx14
import Derived.Test.YtccbpfconceoeaaDoorPx15
import Derived.Test.YtccbpfconceoeaaDoorPx16
import Derived.Test.YtccbpfconceoeaaDoorPx17
namespace Go.Proofs.YtccbpfconceoeaaDoor.P
open Go.RowKit Go.Proofs.YtccbpfconceoeaaDoorW.PrintWords Go.Proofs.YtccbpfconceoeaaDoorW.PrintLast Go.Proofs.YtccbpfconceoeaaDoorW.PrintMore
attribute [local go_sem] max2_int min2_int max_two min_two max_three min_three max_four min_four   -- for this text's walks alone
set_option linter.unusedVariables false
set_option linter.unusedSimpArgs false

attribute [local go_sem high] eqA31
/-! ### spec_DrawRecoverLog: function 44 -/
def spec_DrawRecoverLog.j0 : Nat → ByteArray → List Int → Int → Int → Option (ByteArray)
  | 0, _, _, _, _ => none
  | k + 1, x5, x528000, x528001, x528002 => (spec_l1Cur_one.f x528000 x528001 x528002 40).bind fun bt551 => (if bt551.1 = true then ((spec_l1Cur_pick.f x528000 bt551.2.1 bt551.2.2 2).bind fun bt554 => (if 0 ≤ (wrap64 (30000 + bt554.1)) then (if (wrap64 (30000 + bt554.1) : Int).toNat ≤ 281474976710656 then (some (strOfNums (List.replicate (wrap64 (30000 + bt554.1) : Int).toNat 0))) else (none)) else (none))) else (some x5))
def spec_DrawRecoverLog.f (k : Nat) (l0 : List Int) : Option (ByteArray) := (spec_l1Cur_log12.f k l0 0 0).bind fun bt528 => (if bt528.1.size + bt528.2.1.size ≤ 9223372036854775807 then ((spec_l1Cur_pick.f l0 bt528.2.2.2.1 bt528.2.2.2.2 4).bind fun bt534 => (if bt534.1 = 0 then ((spec_l1Cur_spoilt.f l0 bt534.2.1 bt534.2.2 (bt528.1 ++ bt528.2.1) (⟨#[35, 64, 10, 48, 49]⟩ : ByteArray)).bind fun bt537 => (spec_DrawRecoverLog.j0 k bt537.1 l0 bt537.2.1 bt537.2.2)) else (if bt534.1 = 1 then ((spec_l1Cur_pick.f l0 bt534.2.1 bt534.2.2 (wrap64 (((bt528.1.size : Int) + (bt528.2.1.size : Int)) + 1))).bind fun bt540 => (if 0 ≤ bt540.1 then (if bt540.1 ≤ ((bt528.1.size : Int) + (bt528.2.1.size : Int)) then (spec_DrawRecoverLog.j0 k ((bt528.1 ++ bt528.2.1).extract 0 (bt540.1 : Int).toNat) l0 bt540.2.1 bt540.2.2) else (none)) else (none))) else (if bt534.1 = 2 then ((spec_l1Cur_pick.f l0 bt534.2.1 bt534.2.2 4).bind fun bt543 => ((spec_l1Cur_logRecord.f l0 bt543.2.1 bt543.2.2).bind fun bt546 => ((spec_l12Line.f k bt543.1 bt546.1 bt546.2.1).bind fun t550 => (if bt528.1.size + bt528.2.1.size + t550.size ≤ 9223372036854775807 then (spec_DrawRecoverLog.j0 k ((bt528.1 ++ bt528.2.1) ++ t550) l0 bt546.2.2.1 bt546.2.2.2) else (none))))) else (spec_DrawRecoverLog.j0 k (bt528.1 ++ bt528.2.1) l0 bt534.2.1 bt534.2.2))))) else (none))
set_option maxHeartbeats 8000000 in
set_option maxRecDepth 100000 in
theorem spec_DrawRecoverLog.calls (k : Nat) (A0 : Option Addr) (c0 : Nat) (l0 : List Int) (r : ByteArray) (w : World) (hr0 : Kd.C (Kd.int .u8) w A0 l0.length l0) (hc0 : l0.length ≤ c0) (h : spec_DrawRecoverLog.f k l0 = some r) :
    Calls Tryd.prog 44 #[.slice A0 l0.length c0] w fun e w' => e = .returned (.string r) ∧ Below w.heap.size w w' := by
  have hu79 := Tryd.underlying79
  have hu31 := Tryd.underlying31
  have HR0 := Aside0.mk hr0
  have HC0 := Aside0.mk hc0
  clear hr0 hc0
  have HB := Aside0.mk (Below.refl w.heap.size w)
  have H : ((spec_l1Cur_log12.f k l0 0 0).bind fun bt528 => (if bt528.1.size + bt528.2.1.size ≤ 9223372036854775807 then ((spec_l1Cur_pick.f l0 bt528.2.2.2.1 bt528.2.2.2.2 4).bind fun bt534 => (if bt534.1 = 0 then ((spec_l1Cur_spoilt.f l0 bt534.2.1 bt534.2.2 (bt528.1 ++ bt528.2.1) (⟨#[35, 64, 10, 48, 49]⟩ : ByteArray)).bind fun bt537 => (spec_DrawRecoverLog.j0 k bt537.1 l0 bt537.2.1 bt537.2.2)) else (if bt534.1 = 1 then ((spec_l1Cur_pick.f l0 bt534.2.1 bt534.2.2 (wrap64 (((bt528.1.size : Int) + (bt528.2.1.size : Int)) + 1))).bind fun bt540 => (if 0 ≤ bt540.1 then (if bt540.1 ≤ ((bt528.1.size : Int) + (bt528.2.1.size : Int)) then (spec_DrawRecoverLog.j0 k ((bt528.1 ++ bt528.2.1).extract 0 (bt540.1 : Int).toNat) l0 bt540.2.1 bt540.2.2) else (none)) else (none))) else (if bt534.1 = 2 then ((spec_l1Cur_pick.f l0 bt534.2.1 bt534.2.2 4).bind fun bt543 => ((spec_l1Cur_logRecord.f l0 bt543.2.1 bt543.2.2).bind fun bt546 => ((spec_l12Line.f k bt543.1 bt546.1 bt546.2.1).bind fun t550 => (if bt528.1.size + bt528.2.1.size + t550.size ≤ 9223372036854775807 then (spec_DrawRecoverLog.j0 k ((bt528.1 ++ bt528.2.1) ++ t550) l0 bt546.2.2.1 bt546.2.2.2) else (none))))) else (spec_DrawRecoverLog.j0 k (bt528.1 ++ bt528.2.1) l0 bt534.2.1 bt534.2.2))))) else (none))) = some r := h
  clear h
  replace H := Option.bind_eq_some_iff.mp H
  obtain ⟨⟨t528, t529, t530, t531, t532⟩, A20, H⟩ := H
  replace H : (if t528.size + t529.size ≤ 9223372036854775807 then ((spec_l1Cur_pick.f l0 t531 t532 4).bind fun bt534 => (if bt534.1 = 0 then ((spec_l1Cur_spoilt.f l0 bt534.2.1 bt534.2.2 (t528 ++ t529) (⟨#[35, 64, 10, 48, 49]⟩ : ByteArray)).bind fun bt537 => (spec_DrawRecoverLog.j0 k bt537.1 l0 bt537.2.1 bt537.2.2)) else (if bt534.1 = 1 then ((spec_l1Cur_pick.f l0 bt534.2.1 bt534.2.2 (wrap64 (((t528.size : Int) + (t529.size : Int)) + 1))).bind fun bt540 => (if 0 ≤ bt540.1 then (if bt540.1 ≤ ((t528.size : Int) + (t529.size : Int)) then (spec_DrawRecoverLog.j0 k ((t528 ++ t529).extract 0 (bt540.1 : Int).toNat) l0 bt540.2.1 bt540.2.2) else (none)) else (none))) else (if bt534.1 = 2 then ((spec_l1Cur_pick.f l0 bt534.2.1 bt534.2.2 4).bind fun bt543 => ((spec_l1Cur_logRecord.f l0 bt543.2.1 bt543.2.2).bind fun bt546 => ((spec_l12Line.f k bt543.1 bt546.1 bt546.2.1).bind fun t550 => (if t528.size + t529.size + t550.size ≤ 9223372036854775807 then (spec_DrawRecoverLog.j0 k ((t528 ++ t529) ++ t550) l0 bt546.2.2.1 bt546.2.2.2) else (none))))) else (spec_DrawRecoverLog.j0 k (t528 ++ t529) l0 bt534.2.1 bt534.2.2))))) else (none)) = some r := H
  have A2 := Aside0.mk A20
  clear A20
  by_cases c3 : t528.size + t529.size ≤ 9223372036854775807
  · rw [if_pos c3] at H
    have c3b0 := eq_true c3
    have c3b1 : decide (t528.size + t529.size ≤ 9223372036854775807) = true := decide_eq_true c3
    try have c3b2 : (9223372036854775807 < t528.size + t529.size) = False := eq_false (Nat.not_lt.2 c3)
    clear c3
    replace H := Option.bind_eq_some_iff.mp H
    obtain ⟨⟨t534, t535, t536⟩, A40, H⟩ := H
    replace H : (if t534 = 0 then ((spec_l1Cur_spoilt.f l0 t535 t536 (t528 ++ t529) (⟨#[35, 64, 10, 48, 49]⟩ : ByteArray)).bind fun bt537 => (spec_DrawRecoverLog.j0 k bt537.1 l0 bt537.2.1 bt537.2.2)) else (if t534 = 1 then ((spec_l1Cur_pick.f l0 t535 t536 (wrap64 (((t528.size : Int) + (t529.size : Int)) + 1))).bind fun bt540 => (if 0 ≤ bt540.1 then (if bt540.1 ≤ ((t528.size : Int) + (t529.size : Int)) then (spec_DrawRecoverLog.j0 k ((t528 ++ t529).extract 0 (bt540.1 : Int).toNat) l0 bt540.2.1 bt540.2.2) else (none)) else (none))) else (if t534 = 2 then ((spec_l1Cur_pick.f l0 t535 t536 4).bind fun bt543 => ((spec_l1Cur_logRecord.f l0 bt543.2.1 bt543.2.2).bind fun bt546 => ((spec_l12Line.f k bt543.1 bt546.1 bt546.2.1).bind fun t550 => (if t528.size + t529.size + t550.size ≤ 9223372036854775807 then (spec_DrawRecoverLog.j0 k ((t528 ++ t529) ++ t550) l0 bt546.2.2.1 bt546.2.2.2) else (none))))) else (spec_DrawRecoverLog.j0 k (t528 ++ t529) l0 t535 t536)))) = some r := H
    have A4 := Aside0.mk A40
    clear A40
    have HC5 := Aside0.mk H
    clear H
    go_enter Tryd.func44, Tryd.ntmps44
    go_upto_block 0 with (first | ((with_reducible refine gate_dst (N := 8) rfl ?_); refine box_event ?hg (N := 8) ?hd (cs := #[.slice A0 l0.length c0, .int .i64 0, .int .u64 0]) (t := 79) ?hr ?_; (case hd => rfl); (case hg => rfl); (case hr => first | (go_simp; done) | (go_simp; rfl)); intro gb527 hg w6 hbox hb; have n0_ := Aside0.mk (below_step (by repeat (first | (with_reducible first | exact HB.out | apply below_alloc | apply pw_below_drewN | apply below_drew1) | exact HB.out)) hb); have n1_ := Aside0.mk ((⟨_, _, hbox, (by rw [hg]; exact (below_size (by repeat (first | (with_reducible first | exact HB.out | apply below_alloc | apply pw_below_drewN | apply below_drew1) | exact HB.out))) : w.heap.size ≤ gb527), HR0.out⟩ : IsS79 w w6 gb527 l0 0 0)); clear HB; have HB := n0_; have HI527 := n1_; clear n0_ n1_; clear hb hbox hg) | ((with_reducible refine gate_callee (f := 64) rfl ?_); refine goesL_ (some 10) rfl rfl Tryd.func64 (by kernel_rfl) rfl #[.pointer (some ⟨gb527, 0, none⟩)] rfl (by (try simp only [List.map_toArray, List.map_cons, List.map_nil]); first | done | rfl | (simp only [List.length_drop, List.length_take]; rfl)) ?_; (with_reducible refine (spec_l1Cur_log12.calls k gb527 l0 0 0 t528 t529 t530 t531 t532 w _ ?side1 ?side2 A2.out).mono ?_); (case side1 => repeat (first | (with_reducible first | exact HI527.out | apply IsS79.alloc | apply IsS79.drewN | apply IsS79.drew | apply IsS79.set_1 | apply IsS79.set_2) | exact HI527.out)); (case side2 => repeat (first | (with_reducible first | exact HB.out | apply below_alloc | apply pw_below_drewN | apply below_drew1 | refine below_set ?_ (IsS79.ge HI527.out)) | exact HB.out)); rintro e w7 ⟨rfl, hi, hb, hk⟩; refine ⟨_, rfl, ?_⟩; have n0_ := Aside0.mk (hb); have n1_ := Aside0.mk (hi); clear HB; clear HI527; have HB := n0_; have HI527 := n1_; clear n0_ n1_; (try clear hb); (try clear hb2); (try clear hk); (try clear hi)) | ((with_reducible refine gate_dst (N := 4) rfl ?_); refine box_event ?hg (N := 4) ?hd (cs := #[.string (⟨#[]⟩ : ByteArray), .string (⟨#[]⟩ : ByteArray), .int .i64 0]) (t := 31) ?hr ?_; (case hd => rfl); (case hg => rfl); (case hr => first | (go_simp; done) | (go_simp; rfl)); intro gb533 hg w8 hbox hb; have n0_ := Aside0.mk (IsS79.below (by repeat (first | (with_reducible first | exact HI527.out | apply IsS79.alloc | apply IsS79.drewN | apply IsS79.drew | apply IsS79.set_1 | apply IsS79.set_2) | exact HI527.out)) hb); have n1_ := Aside0.mk (below_step (by repeat (first | (with_reducible first | exact HB.out | apply below_alloc | apply pw_below_drewN | apply below_drew1 | refine below_set ?_ (IsS79.ge HI527.out)) | exact HB.out)) hb); have n2_ := Aside0.mk (hbox); have n3_ := Aside0.mk ((by rw [hg]; exact (below_size (by repeat (first | (with_reducible first | exact HB.out | apply below_alloc | apply pw_below_drewN | apply below_drew1 | refine below_set ?_ (IsS79.ge HI527.out)) | exact HB.out))) : w.heap.size ≤ gb533)); have n4_ := Aside0.mk ((by rw [hg]; exact (below_size (by repeat (first | (with_reducible first | exact HB.out | apply below_alloc | apply pw_below_drewN | apply below_drew1 | refine below_set ?_ (IsS79.ge HI527.out)) | exact HB.out))) : w.heap.size ≤ gb533)); have n5_ := Aside0.mk ((by rw [hg]; exact Nat.ne_of_lt (IsS79.lt (show IsS79 w _ gb527 l0 t531 t532 from by repeat (first | (with_reducible first | exact HI527.out | apply IsS79.alloc | apply IsS79.drewN | apply IsS79.drew | apply IsS79.set_1 | apply IsS79.set_2) | exact HI527.out))) : gb527 ≠ gb533)); have n6_ := Aside0.mk ((by rw [hg]; exact Nat.ne_of_gt (IsS79.lt (show IsS79 w _ gb527 l0 t531 t532 from by repeat (first | (with_reducible first | exact HI527.out | apply IsS79.alloc | apply IsS79.drewN | apply IsS79.drew | apply IsS79.set_1 | apply IsS79.set_2) | exact HI527.out))) : gb533 ≠ gb527)); clear HI527; clear HB; have HI527 := n0_; have HB := n1_; have BK533 := n2_; have GW533 := n3_; have GE533 := n4_; have NB527_533 := n5_; have NB533_527 := n6_; clear n0_ n1_ n2_ n3_ n4_ n5_ n6_; clear hb hbox hg; have hnb9 := NB533_527.out; have hnc9 := NB527_533.out; have hcz10_0 : w8.cell? ⟨gb533, 0, none⟩ = some (.string (⟨#[]⟩ : ByteArray)) := (blk_cell BK533.out 0).trans rfl; have hcz10_1 : w8.cell? ⟨gb533, 1, none⟩ = some (.string (⟨#[]⟩ : ByteArray)) := (blk_cell BK533.out 1).trans rfl; have hcz10_2 : w8.cell? ⟨gb533, 2, none⟩ = some (.int .i64 0) := (blk_cell BK533.out 2).trans rfl; have hfz10_0 := blk_frozen BK533.out 0; have hfz10_1 := blk_frozen BK533.out 1; have hfz10_2 := blk_frozen BK533.out 2) | ((with_reducible refine gate_callee (f := 61) rfl ?_); refine goesL_ (some 17) rfl rfl Tryd.func61 (by kernel_rfl) rfl #[.pointer (some ⟨gb527, 0, none⟩), .int .i64 4] rfl (by (try simp only [List.map_toArray, List.map_cons, List.map_nil]); first | done | rfl | (simp only [List.length_drop, List.length_take]; rfl)) ?_; (with_reducible refine (spec_l1Cur_pick.calls gb527 l0 t531 t532 4 t534 t535 t536 w _ ?side1 ?side2 A4.out).mono ?_); (case side1 => repeat (first | (with_reducible first | exact HI527.out | apply IsS79.alloc | apply IsS79.drewN | apply IsS79.drew | apply IsS79.set_1 | apply IsS79.set_2 | refine IsS79.far ?_ NB527_533.out _) | exact HI527.out)); (case side2 => repeat (first | (with_reducible first | exact HB.out | apply below_alloc | apply pw_below_drewN | apply below_drew1 | refine below_set ?_ (IsS79.ge HI527.out) | refine below_set ?_ GE533.out) | exact HB.out)); rintro e w11 ⟨rfl, hi, hb, hk⟩; refine ⟨_, rfl, ?_⟩; have n0_ := Aside0.mk (KeepBut.blk hk (g' := gb533) (o := .cells #[.string t528, .string t529, .int .i64 t530] 31 (0, 0)) (by (with_reducible repeat (first | refine blk_drewN ?_ _ | refine blk_drew ?_ | refine blk_alloc ?_ _)); refine blk_put (cs := #[.string t528, .string t529, .int .i64 0]) ?_ 2 _ rfl; (with_reducible repeat (first | refine blk_drewN ?_ _ | refine blk_drew ?_ | refine blk_alloc ?_ _)); refine blk_put (cs := #[.string t528, .string (⟨#[]⟩ : ByteArray), .int .i64 0]) ?_ 1 _ rfl; (with_reducible repeat (first | refine blk_drewN ?_ _ | refine blk_drew ?_ | refine blk_alloc ?_ _)); refine blk_put (cs := #[.string (⟨#[]⟩ : ByteArray), .string (⟨#[]⟩ : ByteArray), .int .i64 0]) ?_ 0 _ rfl; (with_reducible repeat (first | refine blk_drewN ?_ _ | refine blk_drew ?_ | refine blk_alloc ?_ _)); exact BK533.out) NB533_527.out (by simp)); have n1_ := Aside0.mk (hb); have n2_ := Aside0.mk (hi); clear BK533; clear HB; clear HI527; have BK533 := n0_; have HB := n1_; have HI527 := n2_; clear n0_ n1_ n2_; (try clear hb); (try clear hb2); (try clear hk); (try clear hi)))
    (try simp only [Act.put, List.setIfInBounds_toArray, List.set_cons_zero, List.set_cons_succ])
    go_cut [5] (fun v5 wc => ∃ (kq : Nat) (x5_4 : ByteArray) (x528001_4 : Int) (x528002_4 : Int), v5 = .string x5_4 ∧ Aside0 (spec_DrawRecoverLog.j0 kq x5_4 l0 x528001_4 x528002_4 = some r) ∧ Aside0 (kq ≤ k) ∧ Aside0 (wc.heap[gb533]? = some (.cells #[.string t528, .string t529, .int .i64 t530] 31 (0, 0))) ∧ Aside0 (IsS79 w wc gb527 l0 x528001_4 x528002_4) ∧ Aside0 (Below w.heap.size w wc))
    case first =>
      have H := HC5.out
      clear HC5
      by_cases c12 : t534 = 0
      · rw [if_pos c12] at H
        have c12b0 : (t534 == 0) = true := beq_iff_eq.mpr c12
        have c12b1 : (t534 != 0) = false := bne_eq_false_iff_eq.mpr c12
        clear c12
        (first | rw [c12b0] | (simp only [i64_w, i32_w]; rw [c12b0]) | skip)
        (try rw [c12b1])
        (try rw [c12b2])
        replace H := Option.bind_eq_some_iff.mp H
        obtain ⟨⟨t537, t538, t539⟩, A130, H⟩ := H
        replace H : (spec_DrawRecoverLog.j0 k t537 l0 t538 t539) = some r := H
        have A13 := Aside0.mk A130
        clear A130
        have H' := Aside0.mk H
        clear H
        go_wp2_with (first | ((with_reducible refine gate_callee (f := 65) rfl ?_); refine goesL_ (some 22) rfl rfl Tryd.func65 (by kernel_rfl) rfl #[.pointer (some ⟨gb527, 0, none⟩), .string (t528 ++ t529), .string (⟨#[35, 64, 10, 48, 49]⟩ : ByteArray)] rfl (by (try simp only [List.map_toArray, List.map_cons, List.map_nil]); first | done | rfl | (simp only [List.length_drop, List.length_take]; rfl)) ?_; (with_reducible refine (spec_l1Cur_spoilt.calls gb527 l0 t535 t536 (t528 ++ t529) (⟨#[35, 64, 10, 48, 49]⟩ : ByteArray) t537 t538 t539 w _ ?side1 ?side2 A13.out).mono ?_); (case side1 => repeat (first | (with_reducible first | exact HI527.out | apply IsS79.alloc | apply IsS79.drewN | apply IsS79.drew | apply IsS79.set_1 | apply IsS79.set_2 | refine IsS79.far ?_ NB527_533.out _) | exact HI527.out)); (case side2 => repeat (first | (with_reducible first | exact HB.out | apply below_alloc | apply pw_below_drewN | apply below_drew1 | refine below_set ?_ (IsS79.ge HI527.out) | refine below_set ?_ GE533.out) | exact HB.out)); rintro e w14 ⟨rfl, hi, hb, hk⟩; refine ⟨_, rfl, ?_⟩; have n0_ := Aside0.mk (KeepBut.blk hk (g' := gb533) (o := .cells #[.string t528, .string t529, .int .i64 t530] 31 (0, 0)) (by (with_reducible repeat (first | refine blk_drewN ?_ _ | refine blk_drew ?_ | refine blk_alloc ?_ _)); exact BK533.out) NB533_527.out (by simp)); have n1_ := Aside0.mk (hb); have n2_ := Aside0.mk (hi); clear BK533; clear HB; clear HI527; have BK533 := n0_; have HB := n1_; have HI527 := n2_; clear n0_ n1_ n2_; (try clear hb); (try clear hb2); (try clear hk); (try clear hi)))
        go_meet
        case rel => exact ⟨_, (t537), (t538), (t539), (by first | rfl | (simp; done) | (simp [*]; done)), H', ⟨by first | omega | exact Nat.le_refl _⟩, ⟨by (with_reducible repeat (first | refine blk_drewN ?_ _ | refine blk_drew ?_ | refine blk_alloc ?_ _)); exact BK533.out⟩, ⟨by repeat (first | (with_reducible first | exact HI527.out | apply IsS79.alloc | apply IsS79.drewN | apply IsS79.drew | apply IsS79.set_1 | apply IsS79.set_2 | refine IsS79.far ?_ NB527_533.out _) | exact HI527.out)⟩, ⟨by repeat (first | (with_reducible first | exact HB.out | apply below_alloc | apply pw_below_drewN | apply below_drew1 | refine below_set ?_ (IsS79.ge HI527.out) | refine below_set ?_ GE533.out) | exact HB.out)⟩⟩
      · rw [if_neg c12] at H
        have c12b0 : (t534 == 0) = false := beq_eq_false_iff_ne.mpr c12
        have c12b1 : (t534 != 0) = true := bne_iff_ne.mpr c12
        (first | rw [c12b0] | (simp only [i64_w, i32_w]; rw [c12b0]) | skip)
        (try rw [c12b1])
        (try rw [c12b2])
        by_cases c15 : t534 = 1
        · rw [if_pos c15] at H
          have c15b0 : (t534 == 1) = true := beq_iff_eq.mpr c15
          have c15b1 : (t534 != 1) = false := bne_eq_false_iff_eq.mpr c15
          clear c15
          replace H := Option.bind_eq_some_iff.mp H
          obtain ⟨⟨t540, t541, t542⟩, A160, H⟩ := H
          replace H : (if 0 ≤ t540 then (if t540 ≤ ((t528.size : Int) + (t529.size : Int)) then (spec_DrawRecoverLog.j0 k ((t528 ++ t529).extract 0 (t540 : Int).toNat) l0 t541 t542) else (none)) else (none)) = some r := H
          have A16 := Aside0.mk A160
          clear A160
          by_cases c17 : 0 ≤ t540
          · rw [if_pos c17] at H
            have c17b0 := eq_true c17
            have c17b1 : decide (0 ≤ t540) = true := decide_eq_true c17
            clear c17
            by_cases c18 : t540 ≤ ((t528.size : Int) + (t529.size : Int))
            · rw [if_pos c18] at H
              have c18b0 := eq_true c18
              have c18b1 : decide (t540 ≤ ((t528.size : Int) + (t529.size : Int))) = true := decide_eq_true c18
              clear c18
              have H' := Aside0.mk H
              clear H
              go_wp2_with (first | ((with_reducible refine gate_callee (f := 61) rfl ?_); refine goesL_ (some 30) rfl rfl Tryd.func61 (by kernel_rfl) rfl #[.pointer (some ⟨gb527, 0, none⟩), .int .i64 (wrap64 (((t528.size : Int) + (t529.size : Int)) + 1))] rfl (by (try simp only [List.map_toArray, List.map_cons, List.map_nil]); first | done | rfl | (simp only [List.length_drop, List.length_take]; rfl)) ?_; (with_reducible refine (spec_l1Cur_pick.calls gb527 l0 t535 t536 (wrap64 (((t528.size : Int) + (t529.size : Int)) + 1)) t540 t541 t542 w _ ?side1 ?side2 A16.out).mono ?_); (case side1 => repeat (first | (with_reducible first | exact HI527.out | apply IsS79.alloc | apply IsS79.drewN | apply IsS79.drew | apply IsS79.set_1 | apply IsS79.set_2 | refine IsS79.far ?_ NB527_533.out _) | exact HI527.out)); (case side2 => repeat (first | (with_reducible first | exact HB.out | apply below_alloc | apply pw_below_drewN | apply below_drew1 | refine below_set ?_ (IsS79.ge HI527.out) | refine below_set ?_ GE533.out) | exact HB.out)); rintro e w19 ⟨rfl, hi, hb, hk⟩; refine ⟨_, rfl, ?_⟩; have n0_ := Aside0.mk (KeepBut.blk hk (g' := gb533) (o := .cells #[.string t528, .string t529, .int .i64 t530] 31 (0, 0)) (by (with_reducible repeat (first | refine blk_drewN ?_ _ | refine blk_drew ?_ | refine blk_alloc ?_ _)); exact BK533.out) NB533_527.out (by simp)); have n1_ := Aside0.mk (hb); have n2_ := Aside0.mk (hi); clear BK533; clear HB; clear HI527; have BK533 := n0_; have HB := n1_; have HI527 := n2_; clear n0_ n1_ n2_; (try clear hb); (try clear hb2); (try clear hk); (try clear hi)))
              go_meet
              case rel => exact ⟨_, ((t528 ++ t529).extract 0 (t540 : Int).toNat), (t541), (t542), (by first | rfl | (simp; done) | (simp [*]; done)), H', ⟨by first | omega | exact Nat.le_refl _⟩, ⟨by (with_reducible repeat (first | refine blk_drewN ?_ _ | refine blk_drew ?_ | refine blk_alloc ?_ _)); exact BK533.out⟩, ⟨by repeat (first | (with_reducible first | exact HI527.out | apply IsS79.alloc | apply IsS79.drewN | apply IsS79.drew | apply IsS79.set_1 | apply IsS79.set_2 | refine IsS79.far ?_ NB527_533.out _) | exact HI527.out)⟩, ⟨by repeat (first | (with_reducible first | exact HB.out | apply below_alloc | apply pw_below_drewN | apply below_drew1 | refine below_set ?_ (IsS79.ge HI527.out) | refine below_set ?_ GE533.out) | exact HB.out)⟩⟩
            · rw [if_neg c18] at H
              exact absurd H (by simp)
          · rw [if_neg c17] at H
            exact absurd H (by simp)
        · rw [if_neg c15] at H
          have c15b0 : (t534 == 1) = false := beq_eq_false_iff_ne.mpr c15
          have c15b1 : (t534 != 1) = true := bne_iff_ne.mpr c15
          by_cases c20 : t534 = 2
          · rw [if_pos c20] at H
            have c20b0 : (t534 == 2) = true := beq_iff_eq.mpr c20
            have c20b1 : (t534 != 2) = false := bne_eq_false_iff_eq.mpr c20
            clear c20
            replace H := Option.bind_eq_some_iff.mp H
            obtain ⟨⟨t543, t544, t545⟩, A210, H⟩ := H
            replace H : ((spec_l1Cur_logRecord.f l0 t544 t545).bind fun bt546 => ((spec_l12Line.f k t543 bt546.1 bt546.2.1).bind fun t550 => (if t528.size + t529.size + t550.size ≤ 9223372036854775807 then (spec_DrawRecoverLog.j0 k ((t528 ++ t529) ++ t550) l0 bt546.2.2.1 bt546.2.2.2) else (none)))) = some r := H
            have A21 := Aside0.mk A210
            clear A210
            replace H := Option.bind_eq_some_iff.mp H
            obtain ⟨⟨t546, t547, t548, t549⟩, A220, H⟩ := H
            replace H : ((spec_l12Line.f k t543 t546 t547).bind fun t550 => (if t528.size + t529.size + t550.size ≤ 9223372036854775807 then (spec_DrawRecoverLog.j0 k ((t528 ++ t529) ++ t550) l0 t548 t549) else (none))) = some r := H
            have A22 := Aside0.mk A220
            clear A220
            replace H := Option.bind_eq_some_iff.mp H
            obtain ⟨t550, A230, H⟩ := H
            replace H : (if t528.size + t529.size + t550.size ≤ 9223372036854775807 then (spec_DrawRecoverLog.j0 k ((t528 ++ t529) ++ t550) l0 t548 t549) else (none)) = some r := H
            have A23 := Aside0.mk A230
            clear A230
            by_cases c24 : t528.size + t529.size + t550.size ≤ 9223372036854775807
            · rw [if_pos c24] at H
              have c24b0 := eq_true c24
              have c24b1 : decide (t528.size + t529.size + t550.size ≤ 9223372036854775807) = true := decide_eq_true c24
              try have c24b2 : (9223372036854775807 < t528.size + t529.size + t550.size) = False := eq_false (Nat.not_lt.2 c24)
              clear c24
              have H' := Aside0.mk H
              clear H
              go_wp2_with (first | ((with_reducible refine gate_callee (f := 61) rfl ?_); refine goesL_ (some 36) rfl rfl Tryd.func61 (by kernel_rfl) rfl #[.pointer (some ⟨gb527, 0, none⟩), .int .i64 4] rfl (by (try simp only [List.map_toArray, List.map_cons, List.map_nil]); first | done | rfl | (simp only [List.length_drop, List.length_take]; rfl)) ?_; (with_reducible refine (spec_l1Cur_pick.calls gb527 l0 t535 t536 4 t543 t544 t545 w _ ?side1 ?side2 A21.out).mono ?_); (case side1 => repeat (first | (with_reducible first | exact HI527.out | apply IsS79.alloc | apply IsS79.drewN | apply IsS79.drew | apply IsS79.set_1 | apply IsS79.set_2 | refine IsS79.far ?_ NB527_533.out _) | exact HI527.out)); (case side2 => repeat (first | (with_reducible first | exact HB.out | apply below_alloc | apply pw_below_drewN | apply below_drew1 | refine below_set ?_ (IsS79.ge HI527.out) | refine below_set ?_ GE533.out) | exact HB.out)); rintro e w25 ⟨rfl, hi, hb, hk⟩; refine ⟨_, rfl, ?_⟩; have n0_ := Aside0.mk (KeepBut.blk hk (g' := gb533) (o := .cells #[.string t528, .string t529, .int .i64 t530] 31 (0, 0)) (by (with_reducible repeat (first | refine blk_drewN ?_ _ | refine blk_drew ?_ | refine blk_alloc ?_ _)); exact BK533.out) NB533_527.out (by simp)); have n1_ := Aside0.mk (hb); have n2_ := Aside0.mk (hi); clear BK533; clear HB; clear HI527; have BK533 := n0_; have HB := n1_; have HI527 := n2_; clear n0_ n1_ n2_; (try clear hb); (try clear hb2); (try clear hk); (try clear hi)) | ((with_reducible refine gate_callee (f := 57) rfl ?_); refine goesL_ (some 38) rfl rfl Tryd.func57 (by kernel_rfl) rfl #[.pointer (some ⟨gb527, 0, none⟩)] rfl (by (try simp only [List.map_toArray, List.map_cons, List.map_nil]); first | done | rfl | (simp only [List.length_drop, List.length_take]; rfl)) ?_; (with_reducible refine (spec_l1Cur_logRecord.calls gb527 l0 t544 t545 t546 t547 t548 t549 w _ ?side1 ?side2 A22.out).mono ?_); (case side1 => repeat (first | (with_reducible first | exact HI527.out | apply IsS79.alloc | apply IsS79.drewN | apply IsS79.drew | apply IsS79.set_1 | apply IsS79.set_2 | refine IsS79.far ?_ NB527_533.out _) | exact HI527.out)); (case side2 => repeat (first | (with_reducible first | exact HB.out | apply below_alloc | apply pw_below_drewN | apply below_drew1 | refine below_set ?_ (IsS79.ge HI527.out) | refine below_set ?_ GE533.out) | exact HB.out)); rintro e w26 ⟨rfl, hi, hb, hk⟩; refine ⟨_, rfl, ?_⟩; have n0_ := Aside0.mk (KeepBut.blk hk (g' := gb533) (o := .cells #[.string t528, .string t529, .int .i64 t530] 31 (0, 0)) (by (with_reducible repeat (first | refine blk_drewN ?_ _ | refine blk_drew ?_ | refine blk_alloc ?_ _)); exact BK533.out) NB533_527.out (by simp)); have n1_ := Aside0.mk (hb); have n2_ := Aside0.mk (hi); clear BK533; clear HB; clear HI527; have BK533 := n0_; have HB := n1_; have HI527 := n2_; clear n0_ n1_ n2_; (try clear hb); (try clear hb2); (try clear hk); (try clear hi)) | ((with_reducible refine gate_callee (f := 47) rfl ?_); refine goesL_ (some 39) rfl rfl Tryd.func47 (by kernel_rfl) rfl #[.int .i64 t543, .agg #[.string t546, .string t547]] rfl (by (try simp only [List.map_toArray, List.map_cons, List.map_nil]); first | done | rfl | (simp only [List.length_drop, List.length_take]; rfl)) ?_; (with_reducible refine (spec_l12Line.calls k t543 t546 t547 t550 _ A23.out).mono ?_); rintro e w27 ⟨rfl, hb⟩; refine ⟨_, rfl, ?_⟩; have n0_ := Aside0.mk (IsS79.below (by repeat (first | (with_reducible first | exact HI527.out | apply IsS79.alloc | apply IsS79.drewN | apply IsS79.drew | apply IsS79.set_1 | apply IsS79.set_2 | refine IsS79.far ?_ NB527_533.out _) | exact HI527.out)) hb); have n1_ := Aside0.mk (blk_below (g := gb533) (o := .cells #[.string t528, .string t529, .int .i64 t530] 31 (0, 0)) (by (with_reducible repeat (first | refine blk_drewN ?_ _ | refine blk_drew ?_ | refine blk_alloc ?_ _)); exact BK533.out) hb); have n2_ := Aside0.mk (below_step (by repeat (first | (with_reducible first | exact HB.out | apply below_alloc | apply pw_below_drewN | apply below_drew1 | refine below_set ?_ (IsS79.ge HI527.out) | refine below_set ?_ GE533.out) | exact HB.out)) hb); clear HI527; clear BK533; clear HB; have HI527 := n0_; have BK533 := n1_; have HB := n2_; clear n0_ n1_ n2_; (try clear hb); (try clear hb2); (try clear hk); (try clear hi)))
              go_meet
              case rel => exact ⟨_, ((t528 ++ t529) ++ t550), (t548), (t549), (by first | rfl | (simp; done) | (simp [*]; done)), H', ⟨by first | omega | exact Nat.le_refl _⟩, ⟨by (with_reducible repeat (first | refine blk_drewN ?_ _ | refine blk_drew ?_ | refine blk_alloc ?_ _)); exact BK533.out⟩, ⟨by repeat (first | (with_reducible first | exact HI527.out | apply IsS79.alloc | apply IsS79.drewN | apply IsS79.drew | apply IsS79.set_1 | apply IsS79.set_2 | refine IsS79.far ?_ NB527_533.out _) | exact HI527.out)⟩, ⟨by repeat (first | (with_reducible first | exact HB.out | apply below_alloc | apply pw_below_drewN | apply below_drew1 | refine below_set ?_ (IsS79.ge HI527.out) | refine below_set ?_ GE533.out) | exact HB.out)⟩⟩
            · rw [if_neg c24] at H
              exact absurd H (by simp)
          · rw [if_neg c20] at H
            have c20b0 : (t534 == 2) = false := beq_eq_false_iff_ne.mpr c20
            have c20b1 : (t534 != 2) = true := bne_iff_ne.mpr c20
            have H' := Aside0.mk H
            clear H
            go_wp2
            go_meet
            case rel => exact ⟨_, (t528 ++ t529), (t535), (t536), (by first | rfl | (simp; done) | (simp [*]; done)), H', ⟨by first | omega | exact Nat.le_refl _⟩, ⟨by (with_reducible repeat (first | refine blk_drewN ?_ _ | refine blk_drew ?_ | refine blk_alloc ?_ _)); exact BK533.out⟩, ⟨by repeat (first | (with_reducible first | exact HI527.out | apply IsS79.alloc | apply IsS79.drewN | apply IsS79.drew | apply IsS79.set_1 | apply IsS79.set_2 | refine IsS79.far ?_ NB527_533.out _) | exact HI527.out)⟩, ⟨by repeat (first | (with_reducible first | exact HB.out | apply below_alloc | apply pw_below_drewN | apply below_drew1 | refine below_set ?_ (IsS79.ge HI527.out) | refine below_set ?_ GE533.out) | exact HB.out)⟩⟩
    case rest =>
      clear HC5
      try clear c1
      try clear c2
      try clear p2
      try clear c3
      try clear c3b0
      try clear c3b1
      try clear c3b2
      try clear c4
      try clear c5
      try clear c6
      try clear p6
      try clear c9
      try clear c12
      try clear c12b0
      try clear c12b1
      try clear c12b2
      try clear c15
      try clear c15b0
      try clear c15b1
      try clear c17
      try clear c17b0
      try clear c17b1
      try clear c18
      try clear c18b0
      try clear c18b1
      try clear c20
      try clear c20b0
      try clear c20b1
      try clear c24
      try clear c24b0
      try clear c24b1
      try clear c24b2
      try clear hcz10_0
      try clear hcz10_1
      try clear hcz10_2
      try clear hfz10_0
      try clear hfz10_1
      try clear hfz10_2
      obtain ⟨kq, x5_4, x528001_4, x528002_4, rfl, HA, HJ4, BK533, HI527, HB⟩ := hcut
      cases kq with
      | zero => exact absurd HA.out (by simp [spec_DrawRecoverLog.j0])
      | succ kj4 =>
        have H := HA.out
        clear HA
        simp only [spec_DrawRecoverLog.j0] at H
        replace H := Option.bind_eq_some_iff.mp H
        obtain ⟨⟨t551, t552, t553⟩, A280, H⟩ := H
        replace H : (if t551 = true then ((spec_l1Cur_pick.f l0 t552 t553 2).bind fun bt554 => (if 0 ≤ (wrap64 (30000 + bt554.1)) then (if (wrap64 (30000 + bt554.1) : Int).toNat ≤ 281474976710656 then (some (strOfNums (List.replicate (wrap64 (30000 + bt554.1) : Int).toNat 0))) else (none)) else (none))) else (some x5_4)) = some r := H
        have A28 := Aside0.mk A280
        clear A280
        by_cases c29 : t551 = true
        · subst c29
          have H1 : ((spec_l1Cur_pick.f l0 t552 t553 2).bind fun bt554 => (if 0 ≤ (wrap64 (30000 + bt554.1)) then (if (wrap64 (30000 + bt554.1) : Int).toNat ≤ 281474976710656 then (some (strOfNums (List.replicate (wrap64 (30000 + bt554.1) : Int).toNat 0))) else (none)) else (none))) = some r := by rw [if_pos rfl] at H; exact H
          clear H
          have H := H1
          clear H1
          replace H := Option.bind_eq_some_iff.mp H
          obtain ⟨⟨t554, t555, t556⟩, A300, H⟩ := H
          replace H : (if 0 ≤ (wrap64 (30000 + t554)) then (if (wrap64 (30000 + t554) : Int).toNat ≤ 281474976710656 then (some (strOfNums (List.replicate (wrap64 (30000 + t554) : Int).toNat 0))) else (none)) else (none)) = some r := H
          have A30 := Aside0.mk A300
          clear A300
          obtain ⟨ji31, hji31⟩ : ∃ j_ : Int, (wrap64 (30000 + t554)) = j_ := ⟨_, rfl⟩
          replace H : (if 0 ≤ (ji31) then (if (ji31 : Int).toNat ≤ 281474976710656 then (some (strOfNums (List.replicate (ji31 : Int).toNat 0))) else (none)) else (none)) = some r := by first | (rw [hji31] at H; exact H) | (simp only [hji31] at H ⊢; exact H)
          (try rw [hji31] at A28)
          (try rw [hji31] at A30)
          have hji31w : (IntKind.i64.wrap (30000 + t554)) = ji31 := (i64_w _).trans hji31
          by_cases c32 : 0 ≤ (ji31)
          · rw [if_pos c32] at H
            have c32b0 := eq_true c32
            have c32b1 : decide (0 ≤ (ji31)) = true := decide_eq_true c32
            clear c32
            by_cases c33 : (ji31 : Int).toNat ≤ 281474976710656
            · rw [if_pos c33] at H
              have c33b0 := eq_true c33
              have c33b1 : decide ((ji31 : Int).toNat ≤ 281474976710656) = true := decide_eq_true c33
              clear c33
              obtain ⟨y557, hy557⟩ : ∃ y_ : List Int, y_ = (List.replicate (ji31 : Int).toNat 0) := ⟨_, rfl⟩
              replace H : (some (strOfNums y557)) = some r := by first | (rw [hy557]; with_reducible exact H) | (have H2_ := (Option.bind_some _ _).symm.trans H; rw [hy557]; with_reducible exact H2_) | (have H2_ := (Option.bind_some _ _).symm.trans H; with_reducible exact H2_) | with_reducible exact H | (rw [hy557]; exact H) | exact H
              have Ny557 := Aside0.mk hy557
              clear hy557
              obtain rfl := Option.some.inj H
              go_wp2_with (first | ((with_reducible refine gate_callee (f := 60) rfl ?_); refine goesL_ (some 42) rfl rfl Tryd.func60 (by kernel_rfl) rfl #[.pointer (some ⟨gb527, 0, none⟩), .int .i64 40] rfl (by (try simp only [List.map_toArray, List.map_cons, List.map_nil]); first | done | rfl | (simp only [List.length_drop, List.length_take]; rfl)) ?_; (with_reducible refine (spec_l1Cur_one.calls gb527 l0 x528001_4 x528002_4 40 true t552 t553 w _ ?side1 ?side2 A28.out).mono ?_); (case side1 => repeat (first | (with_reducible first | exact HI527.out | apply IsS79.alloc | apply IsS79.drewN | apply IsS79.drew | apply IsS79.set_1 | apply IsS79.set_2 | refine IsS79.far ?_ NB527_533.out _) | exact HI527.out)); (case side2 => repeat (first | (with_reducible first | exact HB.out | apply below_alloc | apply pw_below_drewN | apply below_drew1 | refine below_set ?_ (IsS79.ge HI527.out) | refine below_set ?_ GE533.out) | exact HB.out)); rintro e w34 ⟨rfl, hi, hb, hk⟩; refine ⟨_, rfl, ?_⟩; have n0_ := Aside0.mk (KeepBut.blk hk (g' := gb533) (o := .cells #[.string t528, .string t529, .int .i64 t530] 31 (0, 0)) (by (with_reducible repeat (first | refine blk_drewN ?_ _ | refine blk_drew ?_ | refine blk_alloc ?_ _)); exact BK533.out) NB533_527.out (by simp)); have n1_ := Aside0.mk (hb); have n2_ := Aside0.mk (hi); clear BK533; clear HB; clear HI527; have BK533 := n0_; have HB := n1_; have HI527 := n2_; clear n0_ n1_ n2_; (try clear hb); (try clear hb2); (try clear hk); (try clear hi)) | ((with_reducible refine gate_callee (f := 61) rfl ?_); refine goesL_ (some 44) rfl rfl Tryd.func61 (by kernel_rfl) rfl #[.pointer (some ⟨gb527, 0, none⟩), .int .i64 2] rfl (by (try simp only [List.map_toArray, List.map_cons, List.map_nil]); first | done | rfl | (simp only [List.length_drop, List.length_take]; rfl)) ?_; (with_reducible refine (spec_l1Cur_pick.calls gb527 l0 t552 t553 2 t554 t555 t556 w _ ?side1 ?side2 A30.out).mono ?_); (case side1 => repeat (first | (with_reducible first | exact HI527.out | apply IsS79.alloc | apply IsS79.drewN | apply IsS79.drew | apply IsS79.set_1 | apply IsS79.set_2 | refine IsS79.far ?_ NB527_533.out _) | exact HI527.out)); (case side2 => repeat (first | (with_reducible first | exact HB.out | apply below_alloc | apply pw_below_drewN | apply below_drew1 | refine below_set ?_ (IsS79.ge HI527.out) | refine below_set ?_ GE533.out) | exact HB.out)); rintro e w35 ⟨rfl, hi, hb, hk⟩; refine ⟨_, rfl, ?_⟩; have n0_ := Aside0.mk (KeepBut.blk hk (g' := gb533) (o := .cells #[.string t528, .string t529, .int .i64 t530] 31 (0, 0)) (by (with_reducible repeat (first | refine blk_drewN ?_ _ | refine blk_drew ?_ | refine blk_alloc ?_ _)); exact BK533.out) NB533_527.out (by simp)); have n1_ := Aside0.mk (hb); have n2_ := Aside0.mk (hi); clear BK533; clear HB; clear HI527; have BK533 := n0_; have HB := n1_; have HI527 := n2_; clear n0_ n1_ n2_; (try clear hb); (try clear hb2); (try clear hk); (try clear hi)) | ((with_reducible refine gate_dst (N := 46) rfl ?_); refine Kd.R_make (Kd.int .u8) _ 5 rfl (N := 46) rfl 53 _ _ rfl ji31 rfl rfl Tryd.underlying53 (.int .u8 0) 1 info5 rfl (by decide) (by omega) 0 (ok := fun _ => True) (okp := fun _ => True) rfl (fun _ hk => hk) trivial (of_decide_eq_true (by first | (with_reducible assumption) | assumption)) (Nat.le_trans (Nat.mul_le_mul_right _ (of_decide_eq_true (by first | (with_reducible assumption) | assumption) : ji31.toNat ≤ 281474976710656)) (by omega)) (Below.refl _ _) (Nat.le_refl _) ?_; intro v558 w36 ho37 hb hg_ hnew_; clear hg_ hnew_; (first | rw [← Ny557.out] at ho37 | (simp only [Int.reduceToNat] at ho37; rw [← Ny557.out] at ho37)); have n0_ := Aside0.mk (Kd.R_lower ho37 (below_size (by repeat (first | (with_reducible first | exact HB.out | apply below_alloc | apply pw_below_drewN | apply below_drew1 | refine below_set ?_ (IsS79.ge HI527.out) | refine below_set ?_ GE533.out) | exact HB.out)))); have n1_ := Aside0.mk (blk_below (g := gb533) (o := .cells #[.string t528, .string t529, .int .i64 t530] 31 (0, 0)) (by (with_reducible repeat (first | refine blk_drewN ?_ _ | refine blk_drew ?_ | refine blk_alloc ?_ _)); exact BK533.out) hb); have n2_ := Aside0.mk (IsS79.below (by repeat (first | (with_reducible first | exact HI527.out | apply IsS79.alloc | apply IsS79.drewN | apply IsS79.drew | apply IsS79.set_1 | apply IsS79.set_2 | refine IsS79.far ?_ NB527_533.out _) | exact HI527.out)) hb); have n3_ := Aside0.mk (below_step (by repeat (first | (with_reducible first | exact HB.out | apply below_alloc | apply pw_below_drewN | apply below_drew1 | refine below_set ?_ (IsS79.ge HI527.out) | refine below_set ?_ GE533.out) | exact HB.out)) hb); clear BK533; clear HI527; clear HB; have HO559 := n0_; have BK533 := n1_; have HI527 := n2_; have HB := n3_; clear n0_ n1_ n2_ n3_; clear hb ho37; have hcv38 := own_string (P := Tryd.prog) Tryd.underlying53 Tryd.underlying5 Tryd.underlying9 (Kd.own_of_R HO559.out)))
              go_ret
              exact ⟨by first | rfl | (simp [errW_none, errW_some] <;> rfl) | (simp only [← hji31]; first | rfl | (simp [errW_none, errW_some] <;> rfl)) | (simp [*, errW_none, errW_some] <;> rfl), by repeat (first | (with_reducible first | exact HB.out | apply below_alloc | apply pw_below_drewN | apply below_drew1 | refine below_set ?_ (IsS79.ge HI527.out) | refine below_set ?_ GE533.out) | exact HB.out)⟩
            · rw [if_neg c33] at H
              exact absurd H (by simp)
          · rw [if_neg c32] at H
            exact absurd H (by simp)
        · replace c29 := Bool.eq_false_iff.mpr c29
          subst c29
          have H1 : (some x5_4) = some r := by rw [if_neg (show ¬ (false = true) by decide)] at H; exact H
          clear H
          have H := H1
          clear H1
          obtain rfl := Option.some.inj H
          go_wp2_with (first | ((with_reducible refine gate_callee (f := 60) rfl ?_); refine goesL_ (some 42) rfl rfl Tryd.func60 (by kernel_rfl) rfl #[.pointer (some ⟨gb527, 0, none⟩), .int .i64 40] rfl (by (try simp only [List.map_toArray, List.map_cons, List.map_nil]); first | done | rfl | (simp only [List.length_drop, List.length_take]; rfl)) ?_; (with_reducible refine (spec_l1Cur_one.calls gb527 l0 x528001_4 x528002_4 40 false t552 t553 w _ ?side1 ?side2 A28.out).mono ?_); (case side1 => repeat (first | (with_reducible first | exact HI527.out | apply IsS79.alloc | apply IsS79.drewN | apply IsS79.drew | apply IsS79.set_1 | apply IsS79.set_2 | refine IsS79.far ?_ NB527_533.out _) | exact HI527.out)); (case side2 => repeat (first | (with_reducible first | exact HB.out | apply below_alloc | apply pw_below_drewN | apply below_drew1 | refine below_set ?_ (IsS79.ge HI527.out) | refine below_set ?_ GE533.out) | exact HB.out)); rintro e w39 ⟨rfl, hi, hb, hk⟩; refine ⟨_, rfl, ?_⟩; have n0_ := Aside0.mk (KeepBut.blk hk (g' := gb533) (o := .cells #[.string t528, .string t529, .int .i64 t530] 31 (0, 0)) (by (with_reducible repeat (first | refine blk_drewN ?_ _ | refine blk_drew ?_ | refine blk_alloc ?_ _)); exact BK533.out) NB533_527.out (by simp)); have n1_ := Aside0.mk (hb); have n2_ := Aside0.mk (hi); clear BK533; clear HB; clear HI527; have BK533 := n0_; have HB := n1_; have HI527 := n2_; clear n0_ n1_ n2_; (try clear hb); (try clear hb2); (try clear hk); (try clear hi)))
          go_ret
          exact ⟨by first | rfl | (simp [errW_none, errW_some] <;> rfl) | (simp [*, errW_none, errW_some] <;> rfl), by repeat (first | (with_reducible first | exact HB.out | apply below_alloc | apply pw_below_drewN | apply below_drew1 | refine below_set ?_ (IsS79.ge HI527.out) | refine below_set ?_ GE533.out) | exact HB.out)⟩
  · rw [if_neg c3] at H
    exact absurd H (by simp)

/-! ### laws_FnCrashes: function 11 -/
mutual
def laws_FnCrashes.j0 : Nat → Int → Bool → ByteArray → Bool → Bool → ByteArray → ByteArray → Int → Option (Bool)
  | 0, _, _, _, _, _, _, _, _ => none
  | k + 1, x4, x5, x6, x7, x83, x567000, x567001, x567002 => if x83 = true then (some false) else (if x7 = true then ((impl_RecoverLog.f k x6).bind fun bt587 => (if bt587.2.2.2.2 = true then ((impl_IsValidLog.f k bt587.1 bt587.2.1 bt587.2.2.1).bind fun t593 => (if t593 = true then (if bt587.2.2.2.1 < (x567000.size : Int) then (laws_FnCrashes.j1 k x4 x5 true x567000 x567001 x567002 bt587.1 bt587.2.1 bt587.2.2.1) else (laws_FnCrashes.j1 k x4 x5 ((bt587.1.size : Int) != bt587.2.2.2.1) x567000 x567001 x567002 bt587.1 bt587.2.1 bt587.2.2.1)) else (laws_FnCrashes.j1 k x4 x5 true x567000 x567001 x567002 bt587.1 bt587.2.1 bt587.2.2.1))) else (laws_FnCrashes.j1 k x4 x5 true x567000 x567001 x567002 bt587.1 bt587.2.1 bt587.2.2.1))) else (some true))
def laws_FnCrashes.j1 : Nat → Int → Bool → Bool → ByteArray → ByteArray → Int → ByteArray → ByteArray → Int → Option (Bool)
  | 0, _, _, _, _, _, _, _, _, _ => none
  | k + 1, x4, x5, x112, x567000, x567001, x567002, x593000, x593001, x593002 => if x112 = true then (some false) else ((impl_LogRecords.f k x567000 x567001 x567002).bind fun bt594 => ((impl_LogRecords.f k x593000 x593001 x593002).bind fun bt598 => (if (bt598.1.length : Int) ≤ (bt594.1.length : Int) then (if 0 ≤ (bt598.1.length : Int) then ((laws_vRecords.f k bt598.1 (bt594.1.take ((bt598.1.length : Int) : Int).toNat)).bind fun t606 => (if t606 = true then (if x5 = true then (some true) else (if x4 < (x567001.size : Int) then (some true) else (some ((bt598.1.length : Int) == (bt594.1.length : Int))))) else (some false))) else (none)) else (some false))))
end
def laws_FnCrashes.f (k : Nat) (l0 : List Int) : Option (Bool) := (laws_vBig.f l0).bind fun t560 => (if t560 = true then (some true) else ((spec_DrawCrashLog.f k l0).bind fun bt561 => ((impl_CrashLog.f k bt561.1 bt561.2.1 bt561.2.2.1 bt561.2.2.2.1 bt561.2.2.2.2).bind fun bt567 => ((spec_CrashLog.f k bt561.1 bt561.2.1 bt561.2.2.1 bt561.2.2.2.1 bt561.2.2.2.2).bind fun bt569 => ((laws_vCut.f k l0 1).bind fun t571 => ((spec_DrawRecoverLog.f k t571).bind fun t574 => ((impl_RecoverLog.f k t574).bind fun bt575 => ((spec_RecoverLog.f k t574).bind fun bt581 => (if bt567.1.toList = bt569.1.toList then (if (bt567.2 != bt569.2) = true then (laws_FnCrashes.j0 k bt561.2.2.2.1 bt561.2.2.2.2 bt567.1 bt567.2 true bt561.1 bt561.2.1 bt561.2.2.1) else (if (!(bt575.1.toList == bt581.1.toList) || (!(bt575.2.1.toList == bt581.2.1.toList) || (!(bt575.2.2.1 == bt581.2.2.1)))) = true then (laws_FnCrashes.j0 k bt561.2.2.2.1 bt561.2.2.2.2 bt567.1 bt567.2 true bt561.1 bt561.2.1 bt561.2.2.1) else (if bt575.2.2.2.1 = bt581.2.2.2.1 then (laws_FnCrashes.j0 k bt561.2.2.2.1 bt561.2.2.2.2 bt567.1 bt567.2 (bt575.2.2.2.2 != bt581.2.2.2.2) bt561.1 bt561.2.1 bt561.2.2.1) else (laws_FnCrashes.j0 k bt561.2.2.2.1 bt561.2.2.2.2 bt567.1 bt567.2 true bt561.1 bt561.2.1 bt561.2.2.1)))) else (laws_FnCrashes.j0 k bt561.2.2.2.1 bt561.2.2.2.2 bt567.1 bt567.2 true bt561.1 bt561.2.1 bt561.2.2.1))))))))))
set_option maxHeartbeats 8000000 in
set_option maxRecDepth 100000 in
theorem laws_FnCrashes.calls (k : Nat) (A0 : Option Addr) (c0 : Nat) (l0 : List Int) (r : Bool) (w : World) (hr0 : Kd.C (Kd.int .u8) w A0 l0.length l0) (hc0 : l0.length ≤ c0) (hG : GT w) (h : laws_FnCrashes.f k l0 = some r) :
    Calls Tryd.prog 11 #[.slice A0 l0.length c0] w fun e w' => e = .returned (.bool r) ∧ Below w.heap.size w w' := by
  have hu31 := Tryd.underlying31
  have hG_ := Aside0.mk hG
  clear hG
  have HR0 := Aside0.mk hr0
  have HC0 := Aside0.mk hc0
  clear hr0 hc0
  have HB := Aside0.mk (Below.refl w.heap.size w)
  have H : ((laws_vBig.f l0).bind fun t560 => (if t560 = true then (some true) else ((spec_DrawCrashLog.f k l0).bind fun bt561 => ((impl_CrashLog.f k bt561.1 bt561.2.1 bt561.2.2.1 bt561.2.2.2.1 bt561.2.2.2.2).bind fun bt567 => ((spec_CrashLog.f k bt561.1 bt561.2.1 bt561.2.2.1 bt561.2.2.2.1 bt561.2.2.2.2).bind fun bt569 => ((laws_vCut.f k l0 1).bind fun t571 => ((spec_DrawRecoverLog.f k t571).bind fun t574 => ((impl_RecoverLog.f k t574).bind fun bt575 => ((spec_RecoverLog.f k t574).bind fun bt581 => (if bt567.1.toList = bt569.1.toList then (if (bt567.2 != bt569.2) = true then (laws_FnCrashes.j0 k bt561.2.2.2.1 bt561.2.2.2.2 bt567.1 bt567.2 true bt561.1 bt561.2.1 bt561.2.2.1) else (if (!(bt575.1.toList == bt581.1.toList) || (!(bt575.2.1.toList == bt581.2.1.toList) || (!(bt575.2.2.1 == bt581.2.2.1)))) = true then (laws_FnCrashes.j0 k bt561.2.2.2.1 bt561.2.2.2.2 bt567.1 bt567.2 true bt561.1 bt561.2.1 bt561.2.2.1) else (if bt575.2.2.2.1 = bt581.2.2.2.1 then (laws_FnCrashes.j0 k bt561.2.2.2.1 bt561.2.2.2.2 bt567.1 bt567.2 (bt575.2.2.2.2 != bt581.2.2.2.2) bt561.1 bt561.2.1 bt561.2.2.1) else (laws_FnCrashes.j0 k bt561.2.2.2.1 bt561.2.2.2.2 bt567.1 bt567.2 true bt561.1 bt561.2.1 bt561.2.2.1)))) else (laws_FnCrashes.j0 k bt561.2.2.2.1 bt561.2.2.2.2 bt567.1 bt567.2 true bt561.1 bt561.2.1 bt561.2.2.1))))))))))) = some r := h
  clear h
  replace H := Option.bind_eq_some_iff.mp H
  obtain ⟨t560, A20, H⟩ := H
  replace H : (if t560 = true then (some true) else ((spec_DrawCrashLog.f k l0).bind fun bt561 => ((impl_CrashLog.f k bt561.1 bt561.2.1 bt561.2.2.1 bt561.2.2.2.1 bt561.2.2.2.2).bind fun bt567 => ((spec_CrashLog.f k bt561.1 bt561.2.1 bt561.2.2.1 bt561.2.2.2.1 bt561.2.2.2.2).bind fun bt569 => ((laws_vCut.f k l0 1).bind fun t571 => ((spec_DrawRecoverLog.f k t571).bind fun t574 => ((impl_RecoverLog.f k t574).bind fun bt575 => ((spec_RecoverLog.f k t574).bind fun bt581 => (if bt567.1.toList = bt569.1.toList then (if (bt567.2 != bt569.2) = true then (laws_FnCrashes.j0 k bt561.2.2.2.1 bt561.2.2.2.2 bt567.1 bt567.2 true bt561.1 bt561.2.1 bt561.2.2.1) else (if (!(bt575.1.toList == bt581.1.toList) || (!(bt575.2.1.toList == bt581.2.1.toList) || (!(bt575.2.2.1 == bt581.2.2.1)))) = true then (laws_FnCrashes.j0 k bt561.2.2.2.1 bt561.2.2.2.2 bt567.1 bt567.2 true bt561.1 bt561.2.1 bt561.2.2.1) else (if bt575.2.2.2.1 = bt581.2.2.2.1 then (laws_FnCrashes.j0 k bt561.2.2.2.1 bt561.2.2.2.2 bt567.1 bt567.2 (bt575.2.2.2.2 != bt581.2.2.2.2) bt561.1 bt561.2.1 bt561.2.2.1) else (laws_FnCrashes.j0 k bt561.2.2.2.1 bt561.2.2.2.2 bt567.1 bt567.2 true bt561.1 bt561.2.1 bt561.2.2.1)))) else (laws_FnCrashes.j0 k bt561.2.2.2.1 bt561.2.2.2.2 bt567.1 bt567.2 true bt561.1 bt561.2.1 bt561.2.2.1)))))))))) = some r := H
  have A2 := Aside0.mk A20
  clear A20
  by_cases c3 : t560 = true
  · subst c3
    have H1 : (some true) = some r := by rw [if_pos rfl] at H; exact H
    clear H
    have H := H1
    clear H1
    obtain rfl := Option.some.inj H
    go_enter Tryd.func11, Tryd.ntmps11
    go_wp2_with (first | ((with_reducible refine gate_callee (f := 34) rfl ?_); refine goesL_ (some 25) rfl rfl Tryd.func34 (by kernel_rfl) rfl #[.slice A0 l0.length c0] rfl (by (try simp only [List.map_toArray, List.map_cons, List.map_nil]); first | done | rfl | (simp only [List.length_drop, List.length_take]; rfl)) ?_; (with_reducible refine (laws_vBig.calls _ _ l0 true _ ?side1 ?side2 A2.out).mono ?_); (case side1 => repeat (first | exact HR0.out | (with_reducible refine Kd.C_alloc ?_ _) | (with_reducible refine Kd.C_drewN ?_ _) | (with_reducible refine Kd.C_drew ?_))); (case side2 => exact HC0.out); rintro e w' ⟨rfl, ⟨nd, rfl⟩⟩; refine ⟨_, rfl, ?_⟩))
    go_ret
    exact ⟨by first | rfl | (simp [errW_none, errW_some] <;> rfl) | (simp [*, errW_none, errW_some] <;> rfl), by repeat (first | (with_reducible first | exact HB.out | apply below_alloc | apply pw_below_drewN | apply below_drew1) | exact HB.out)⟩
  · replace c3 := Bool.eq_false_iff.mpr c3
    subst c3
    have H1 : ((spec_DrawCrashLog.f k l0).bind fun bt561 => ((impl_CrashLog.f k bt561.1 bt561.2.1 bt561.2.2.1 bt561.2.2.2.1 bt561.2.2.2.2).bind fun bt567 => ((spec_CrashLog.f k bt561.1 bt561.2.1 bt561.2.2.1 bt561.2.2.2.1 bt561.2.2.2.2).bind fun bt569 => ((laws_vCut.f k l0 1).bind fun t571 => ((spec_DrawRecoverLog.f k t571).bind fun t574 => ((impl_RecoverLog.f k t574).bind fun bt575 => ((spec_RecoverLog.f k t574).bind fun bt581 => (if bt567.1.toList = bt569.1.toList then (if (bt567.2 != bt569.2) = true then (laws_FnCrashes.j0 k bt561.2.2.2.1 bt561.2.2.2.2 bt567.1 bt567.2 true bt561.1 bt561.2.1 bt561.2.2.1) else (if (!(bt575.1.toList == bt581.1.toList) || (!(bt575.2.1.toList == bt581.2.1.toList) || (!(bt575.2.2.1 == bt581.2.2.1)))) = true then (laws_FnCrashes.j0 k bt561.2.2.2.1 bt561.2.2.2.2 bt567.1 bt567.2 true bt561.1 bt561.2.1 bt561.2.2.1) else (if bt575.2.2.2.1 = bt581.2.2.2.1 then (laws_FnCrashes.j0 k bt561.2.2.2.1 bt561.2.2.2.2 bt567.1 bt567.2 (bt575.2.2.2.2 != bt581.2.2.2.2) bt561.1 bt561.2.1 bt561.2.2.1) else (laws_FnCrashes.j0 k bt561.2.2.2.1 bt561.2.2.2.2 bt567.1 bt567.2 true bt561.1 bt561.2.1 bt561.2.2.1)))) else (laws_FnCrashes.j0 k bt561.2.2.2.1 bt561.2.2.2.2 bt567.1 bt567.2 true bt561.1 bt561.2.1 bt561.2.2.1))))))))) = some r := by rw [if_neg (show ¬ (false = true) by decide)] at H; exact H
    clear H
    have H := H1
    clear H1
    replace H := Option.bind_eq_some_iff.mp H
    obtain ⟨⟨t561, t562, t563, t564, t565⟩, A40, H⟩ := H
    replace H : ((impl_CrashLog.f k t561 t562 t563 t564 t565).bind fun bt567 => ((spec_CrashLog.f k t561 t562 t563 t564 t565).bind fun bt569 => ((laws_vCut.f k l0 1).bind fun t571 => ((spec_DrawRecoverLog.f k t571).bind fun t574 => ((impl_RecoverLog.f k t574).bind fun bt575 => ((spec_RecoverLog.f k t574).bind fun bt581 => (if bt567.1.toList = bt569.1.toList then (if (bt567.2 != bt569.2) = true then (laws_FnCrashes.j0 k t564 t565 bt567.1 bt567.2 true t561 t562 t563) else (if (!(bt575.1.toList == bt581.1.toList) || (!(bt575.2.1.toList == bt581.2.1.toList) || (!(bt575.2.2.1 == bt581.2.2.1)))) = true then (laws_FnCrashes.j0 k t564 t565 bt567.1 bt567.2 true t561 t562 t563) else (if bt575.2.2.2.1 = bt581.2.2.2.1 then (laws_FnCrashes.j0 k t564 t565 bt567.1 bt567.2 (bt575.2.2.2.2 != bt581.2.2.2.2) t561 t562 t563) else (laws_FnCrashes.j0 k t564 t565 bt567.1 bt567.2 true t561 t562 t563)))) else (laws_FnCrashes.j0 k t564 t565 bt567.1 bt567.2 true t561 t562 t563)))))))) = some r := H
    have A4 := Aside0.mk A40
    clear A40
    replace H := Option.bind_eq_some_iff.mp H
    obtain ⟨⟨t567, t568⟩, A50, H⟩ := H
    replace H : ((spec_CrashLog.f k t561 t562 t563 t564 t565).bind fun bt569 => ((laws_vCut.f k l0 1).bind fun t571 => ((spec_DrawRecoverLog.f k t571).bind fun t574 => ((impl_RecoverLog.f k t574).bind fun bt575 => ((spec_RecoverLog.f k t574).bind fun bt581 => (if t567.toList = bt569.1.toList then (if (t568 != bt569.2) = true then (laws_FnCrashes.j0 k t564 t565 t567 t568 true t561 t562 t563) else (if (!(bt575.1.toList == bt581.1.toList) || (!(bt575.2.1.toList == bt581.2.1.toList) || (!(bt575.2.2.1 == bt581.2.2.1)))) = true then (laws_FnCrashes.j0 k t564 t565 t567 t568 true t561 t562 t563) else (if bt575.2.2.2.1 = bt581.2.2.2.1 then (laws_FnCrashes.j0 k t564 t565 t567 t568 (bt575.2.2.2.2 != bt581.2.2.2.2) t561 t562 t563) else (laws_FnCrashes.j0 k t564 t565 t567 t568 true t561 t562 t563)))) else (laws_FnCrashes.j0 k t564 t565 t567 t568 true t561 t562 t563))))))) = some r := H
    have A5 := Aside0.mk A50
    clear A50
    replace H := Option.bind_eq_some_iff.mp H
    obtain ⟨⟨t569, t570⟩, A60, H⟩ := H
    replace H : ((laws_vCut.f k l0 1).bind fun t571 => ((spec_DrawRecoverLog.f k t571).bind fun t574 => ((impl_RecoverLog.f k t574).bind fun bt575 => ((spec_RecoverLog.f k t574).bind fun bt581 => (if t567.toList = t569.toList then (if (t568 != t570) = true then (laws_FnCrashes.j0 k t564 t565 t567 t568 true t561 t562 t563) else (if (!(bt575.1.toList == bt581.1.toList) || (!(bt575.2.1.toList == bt581.2.1.toList) || (!(bt575.2.2.1 == bt581.2.2.1)))) = true then (laws_FnCrashes.j0 k t564 t565 t567 t568 true t561 t562 t563) else (if bt575.2.2.2.1 = bt581.2.2.2.1 then (laws_FnCrashes.j0 k t564 t565 t567 t568 (bt575.2.2.2.2 != bt581.2.2.2.2) t561 t562 t563) else (laws_FnCrashes.j0 k t564 t565 t567 t568 true t561 t562 t563)))) else (laws_FnCrashes.j0 k t564 t565 t567 t568 true t561 t562 t563)))))) = some r := H
    have A6 := Aside0.mk A60
    clear A60
    replace H := Option.bind_eq_some_iff.mp H
    obtain ⟨t571, A70, H⟩ := H
    replace H : ((spec_DrawRecoverLog.f k t571).bind fun t574 => ((impl_RecoverLog.f k t574).bind fun bt575 => ((spec_RecoverLog.f k t574).bind fun bt581 => (if t567.toList = t569.toList then (if (t568 != t570) = true then (laws_FnCrashes.j0 k t564 t565 t567 t568 true t561 t562 t563) else (if (!(bt575.1.toList == bt581.1.toList) || (!(bt575.2.1.toList == bt581.2.1.toList) || (!(bt575.2.2.1 == bt581.2.2.1)))) = true then (laws_FnCrashes.j0 k t564 t565 t567 t568 true t561 t562 t563) else (if bt575.2.2.2.1 = bt581.2.2.2.1 then (laws_FnCrashes.j0 k t564 t565 t567 t568 (bt575.2.2.2.2 != bt581.2.2.2.2) t561 t562 t563) else (laws_FnCrashes.j0 k t564 t565 t567 t568 true t561 t562 t563)))) else (laws_FnCrashes.j0 k t564 t565 t567 t568 true t561 t562 t563))))) = some r := H
    have A7 := Aside0.mk A70
    clear A70
    replace H := Option.bind_eq_some_iff.mp H
    obtain ⟨t574, A80, H⟩ := H
    replace H : ((impl_RecoverLog.f k t574).bind fun bt575 => ((spec_RecoverLog.f k t574).bind fun bt581 => (if t567.toList = t569.toList then (if (t568 != t570) = true then (laws_FnCrashes.j0 k t564 t565 t567 t568 true t561 t562 t563) else (if (!(bt575.1.toList == bt581.1.toList) || (!(bt575.2.1.toList == bt581.2.1.toList) || (!(bt575.2.2.1 == bt581.2.2.1)))) = true then (laws_FnCrashes.j0 k t564 t565 t567 t568 true t561 t562 t563) else (if bt575.2.2.2.1 = bt581.2.2.2.1 then (laws_FnCrashes.j0 k t564 t565 t567 t568 (bt575.2.2.2.2 != bt581.2.2.2.2) t561 t562 t563) else (laws_FnCrashes.j0 k t564 t565 t567 t568 true t561 t562 t563)))) else (laws_FnCrashes.j0 k t564 t565 t567 t568 true t561 t562 t563)))) = some r := H
    have A8 := Aside0.mk A80
    clear A80
    replace H := Option.bind_eq_some_iff.mp H
    obtain ⟨⟨t575, t576, t577, t578, t579⟩, A90, H⟩ := H
    replace H : ((spec_RecoverLog.f k t574).bind fun bt581 => (if t567.toList = t569.toList then (if (t568 != t570) = true then (laws_FnCrashes.j0 k t564 t565 t567 t568 true t561 t562 t563) else (if (!(t575.toList == bt581.1.toList) || (!(t576.toList == bt581.2.1.toList) || (!(t577 == bt581.2.2.1)))) = true then (laws_FnCrashes.j0 k t564 t565 t567 t568 true t561 t562 t563) else (if t578 = bt581.2.2.2.1 then (laws_FnCrashes.j0 k t564 t565 t567 t568 (t579 != bt581.2.2.2.2) t561 t562 t563) else (laws_FnCrashes.j0 k t564 t565 t567 t568 true t561 t562 t563)))) else (laws_FnCrashes.j0 k t564 t565 t567 t568 true t561 t562 t563))) = some r := H
    have A9 := Aside0.mk A90
    clear A90
    replace H := Option.bind_eq_some_iff.mp H
    obtain ⟨⟨t581, t582, t583, t584, t585⟩, A100, H⟩ := H
    replace H : (if t567.toList = t569.toList then (if (t568 != t570) = true then (laws_FnCrashes.j0 k t564 t565 t567 t568 true t561 t562 t563) else (if (!(t575.toList == t581.toList) || (!(t576.toList == t582.toList) || (!(t577 == t583)))) = true then (laws_FnCrashes.j0 k t564 t565 t567 t568 true t561 t562 t563) else (if t578 = t584 then (laws_FnCrashes.j0 k t564 t565 t567 t568 (t579 != t585) t561 t562 t563) else (laws_FnCrashes.j0 k t564 t565 t567 t568 true t561 t562 t563)))) else (laws_FnCrashes.j0 k t564 t565 t567 t568 true t561 t562 t563)) = some r := H
    have A10 := Aside0.mk A100
    clear A100
    have HC11 := Aside0.mk H
    clear H
    go_enter Tryd.func11, Tryd.ntmps11
    go_upto_region 9 with (first | ((with_reducible refine gate_callee (f := 34) rfl ?_); refine goesL_ (some 25) rfl rfl Tryd.func34 (by kernel_rfl) rfl #[.slice A0 l0.length c0] rfl (by (try simp only [List.map_toArray, List.map_cons, List.map_nil]); first | done | rfl | (simp only [List.length_drop, List.length_take]; rfl)) ?_; (with_reducible refine (laws_vBig.calls _ _ l0 false _ ?side1 ?side2 A2.out).mono ?_); (case side1 => repeat (first | exact HR0.out | (with_reducible refine Kd.C_alloc ?_ _) | (with_reducible refine Kd.C_drewN ?_ _) | (with_reducible refine Kd.C_drew ?_))); (case side2 => exact HC0.out); rintro e w' ⟨rfl, ⟨nd, rfl⟩⟩; refine ⟨_, rfl, ?_⟩) | ((with_reducible refine gate_callee (f := 43) rfl ?_); refine goesL_ (some 28) rfl rfl Tryd.func43 (by kernel_rfl) rfl #[.slice A0 l0.length c0] rfl (by (try simp only [List.map_toArray, List.map_cons, List.map_nil]); first | done | rfl | (simp only [List.length_drop, List.length_take]; rfl)) ?_; (with_reducible refine (spec_DrawCrashLog.calls k _ _ l0 t561 t562 t563 t564 t565 _ ?side1 ?side2 A4.out).mono ?_); (case side1 => repeat (first | exact HR0.out | (with_reducible refine Kd.C_alloc ?_ _) | (with_reducible refine Kd.C_drewN ?_ _) | (with_reducible refine Kd.C_drew ?_))); (case side2 => exact HC0.out); rintro e w12 ⟨rfl, hb⟩; refine ⟨_, rfl, ?_⟩; have n0_ := Aside0.mk (below_step (by repeat (first | (with_reducible first | exact HB.out | apply below_alloc | apply pw_below_drewN | apply below_drew1) | exact HB.out)) hb); clear HB; have HB := n0_; clear n0_; (try clear hb); (try clear hb2); (try clear hk); (try clear hi)) | ((with_reducible refine gate_dst (N := 3) rfl ?_); (try (refine gate_guard (by rfl) ?_; dsimp only)); refine box_event ?hg (N := 3) ?hd (cs := #[.string (⟨#[]⟩ : ByteArray), .string (⟨#[]⟩ : ByteArray), .int .i64 0]) (t := 31) ?hr ?_; (case hd => rfl); (case hg => rfl); (case hr => first | (go_simp; done) | (go_simp; rfl)); intro gb566 hg w13 hbox hb; have n0_ := Aside0.mk (below_step (by repeat (first | (with_reducible first | exact HB.out | apply below_alloc | apply pw_below_drewN | apply below_drew1) | exact HB.out)) hb); have n1_ := Aside0.mk (hbox); have n2_ := Aside0.mk ((by rw [hg]; exact (below_size (by repeat (first | (with_reducible first | exact HB.out | apply below_alloc | apply pw_below_drewN | apply below_drew1) | exact HB.out))) : w.heap.size ≤ gb566)); have n3_ := Aside0.mk ((by rw [hg]; exact (below_size (by repeat (first | (with_reducible first | exact HB.out | apply below_alloc | apply pw_below_drewN | apply below_drew1) | exact HB.out))) : w.heap.size ≤ gb566)); clear HB; have HB := n0_; have BK566 := n1_; have GW566 := n2_; have GE566 := n3_; clear n0_ n1_ n2_ n3_; clear hb hbox hg; have hcz14_0 : w13.cell? ⟨gb566, 0, none⟩ = some (.string (⟨#[]⟩ : ByteArray)) := (blk_cell BK566.out 0).trans rfl; have hcz14_1 : w13.cell? ⟨gb566, 1, none⟩ = some (.string (⟨#[]⟩ : ByteArray)) := (blk_cell BK566.out 1).trans rfl; have hcz14_2 : w13.cell? ⟨gb566, 2, none⟩ = some (.int .i64 0) := (blk_cell BK566.out 2).trans rfl; have hfz14_0 := blk_frozen BK566.out 0; have hfz14_1 := blk_frozen BK566.out 1; have hfz14_2 := blk_frozen BK566.out 2) | ((with_reducible refine gate_callee (f := 24) rfl ?_); refine goesL_ (some 36) rfl rfl Tryd.func24 (by kernel_rfl) rfl #[.agg #[.string t561, .string t562, .int .i64 t563], .int .i64 t564, .bool t565] rfl (by (try simp only [List.map_toArray, List.map_cons, List.map_nil]); first | done | rfl | (simp only [List.length_drop, List.length_take]; rfl)) ?_; (with_reducible refine (impl_CrashLog.calls k t561 t562 t563 t564 t565 t567 t568 _ ?side1 A5.out).mono ?_); (case side1 => exact GT.below hG_.out (by repeat (first | (with_reducible first | exact HB.out | apply below_alloc | apply pw_below_drewN | apply below_drew1 | refine below_set ?_ GE566.out) | exact HB.out)) (Nat.le_refl _)); rintro e w15 ⟨rfl, hb⟩; refine ⟨_, rfl, ?_⟩; have n0_ := Aside0.mk (blk_below (g := gb566) (o := .cells #[.string t561, .string t562, .int .i64 t563] 31 (0, 0)) (by (with_reducible repeat (first | refine blk_drewN ?_ _ | refine blk_drew ?_ | refine blk_alloc ?_ _)); refine blk_put (cs := #[.string t561, .string t562, .int .i64 0]) ?_ 2 _ rfl; (with_reducible repeat (first | refine blk_drewN ?_ _ | refine blk_drew ?_ | refine blk_alloc ?_ _)); refine blk_put (cs := #[.string t561, .string (⟨#[]⟩ : ByteArray), .int .i64 0]) ?_ 1 _ rfl; (with_reducible repeat (first | refine blk_drewN ?_ _ | refine blk_drew ?_ | refine blk_alloc ?_ _)); refine blk_put (cs := #[.string (⟨#[]⟩ : ByteArray), .string (⟨#[]⟩ : ByteArray), .int .i64 0]) ?_ 0 _ rfl; (with_reducible repeat (first | refine blk_drewN ?_ _ | refine blk_drew ?_ | refine blk_alloc ?_ _)); exact BK566.out) hb); have n1_ := Aside0.mk (below_step (by repeat (first | (with_reducible first | exact HB.out | apply below_alloc | apply pw_below_drewN | apply below_drew1 | refine below_set ?_ GE566.out) | exact HB.out)) hb); clear BK566; clear HB; have BK566 := n0_; have HB := n1_; clear n0_ n1_; (try clear hb); (try clear hb2); (try clear hk); (try clear hi); have hcz16_0 : w15.cell? ⟨gb566, 0, none⟩ = some (.string t561) := (blk_cell BK566.out 0).trans rfl; have hcz16_1 : w15.cell? ⟨gb566, 1, none⟩ = some (.string t562) := (blk_cell BK566.out 1).trans rfl; have hcz16_2 : w15.cell? ⟨gb566, 2, none⟩ = some (.int .i64 t563) := (blk_cell BK566.out 2).trans rfl; have hfz16_0 := blk_frozen BK566.out 0; have hfz16_1 := blk_frozen BK566.out 1; have hfz16_2 := blk_frozen BK566.out 2) | ((with_reducible refine gate_callee (f := 23) rfl ?_); refine goesL_ (some 43) rfl rfl Tryd.func23 (by kernel_rfl) rfl #[.agg #[.string t561, .string t562, .int .i64 t563], .int .i64 t564, .bool t565] rfl (by (try simp only [List.map_toArray, List.map_cons, List.map_nil]); first | done | rfl | (simp only [List.length_drop, List.length_take]; rfl)) ?_; (with_reducible refine (spec_CrashLog.calls k t561 t562 t563 t564 t565 t569 t570 _ A6.out).mono ?_); rintro e w17 ⟨rfl, hb⟩; refine ⟨_, rfl, ?_⟩; have n0_ := Aside0.mk (blk_below (g := gb566) (o := .cells #[.string t561, .string t562, .int .i64 t563] 31 (0, 0)) (by (with_reducible repeat (first | refine blk_drewN ?_ _ | refine blk_drew ?_ | refine blk_alloc ?_ _)); exact BK566.out) hb); have n1_ := Aside0.mk (below_step (by repeat (first | (with_reducible first | exact HB.out | apply below_alloc | apply pw_below_drewN | apply below_drew1 | refine below_set ?_ GE566.out) | exact HB.out)) hb); clear BK566; clear HB; have BK566 := n0_; have HB := n1_; clear n0_ n1_; (try clear hb); (try clear hb2); (try clear hk); (try clear hi)) | ((with_reducible refine gate_callee (f := 37) rfl ?_); refine goesL_ (some 47) rfl rfl Tryd.func37 (by kernel_rfl) rfl #[.slice A0 l0.length c0, .int .i64 1] rfl (by (try simp only [List.map_toArray, List.map_cons, List.map_nil]); first | done | rfl | (simp only [List.length_drop, List.length_take]; rfl)) ?_; (with_reducible refine (laws_vCut.calls k _ _ l0 1 t571 _ ?side1 ?side2 A7.out).mono ?_); (case side1 => repeat (first | exact (Kd.C_below HR0.out HB.out) | (with_reducible refine Kd.C_alloc ?_ _) | (with_reducible refine Kd.C_drewN ?_ _) | (with_reducible refine Kd.C_drew ?_))); (case side2 => exact HC0.out); rintro e w18 ⟨v572, rfl, ho0, hb⟩; refine ⟨_, rfl, ?_⟩; have n0_ := Aside0.mk (Kd.R_lower ho0 (below_size (by repeat (first | (with_reducible first | exact HB.out | apply below_alloc | apply pw_below_drewN | apply below_drew1 | refine below_set ?_ GE566.out) | exact HB.out)))); have n1_ := Aside0.mk (blk_below (g := gb566) (o := .cells #[.string t561, .string t562, .int .i64 t563] 31 (0, 0)) (by (with_reducible repeat (first | refine blk_drewN ?_ _ | refine blk_drew ?_ | refine blk_alloc ?_ _)); exact BK566.out) hb); have n2_ := Aside0.mk (below_step (by repeat (first | (with_reducible first | exact HB.out | apply below_alloc | apply pw_below_drewN | apply below_drew1 | refine below_set ?_ GE566.out) | exact HB.out)) hb); clear BK566; clear HB; have HO573 := n0_; have BK566 := n1_; have HB := n2_; clear n0_ n1_ n2_; (try clear hb); (try clear hb2); (try clear hk); (try clear hi); (try clear ho0); obtain ⟨Ao19, co19, eo19⟩ := Kd.R_slice HO573.out; subst eo19) | ((with_reducible refine gate_callee (f := 44) rfl ?_); refine goesL_ (some 48) rfl rfl Tryd.func44 (by kernel_rfl) rfl #[.slice Ao19 t571.length co19] rfl (by (try simp only [List.map_toArray, List.map_cons, List.map_nil]); first | done | rfl | (simp only [List.length_drop, List.length_take]; rfl)) ?_; (with_reducible refine (spec_DrawRecoverLog.calls k _ _ t571 t574 _ ?side1 ?side2 A8.out).mono ?_); (case side1 => repeat (first | exact (Kd.R_reads' HO573.out).2.2 | (with_reducible refine Kd.C_alloc ?_ _) | (with_reducible refine Kd.C_drewN ?_ _) | (with_reducible refine Kd.C_drew ?_))); (case side2 => exact (Kd.R_reads' HO573.out).2.1); rintro e w20 ⟨rfl, hb⟩; refine ⟨_, rfl, ?_⟩; have n0_ := Aside0.mk (Kd.R_below (by (with_reducible repeat (first | apply Kd.R_alloc | apply Kd.R_drewN | apply Kd.R_drew)); exact HO573.out) hb); have n1_ := Aside0.mk (blk_below (g := gb566) (o := .cells #[.string t561, .string t562, .int .i64 t563] 31 (0, 0)) (by (with_reducible repeat (first | refine blk_drewN ?_ _ | refine blk_drew ?_ | refine blk_alloc ?_ _)); exact BK566.out) hb); have n2_ := Aside0.mk (below_step (by repeat (first | (with_reducible first | exact HB.out | apply below_alloc | apply pw_below_drewN | apply below_drew1 | refine below_set ?_ GE566.out) | exact HB.out)) hb); clear HO573; clear BK566; clear HB; have HO573 := n0_; have BK566 := n1_; have HB := n2_; clear n0_ n1_ n2_; (try clear hb); (try clear hb2); (try clear hk); (try clear hi)) | ((with_reducible refine gate_callee (f := 17) rfl ?_); refine goesL_ (some 51) rfl rfl Tryd.func17 (by kernel_rfl) rfl #[.string t574] rfl (by (try simp only [List.map_toArray, List.map_cons, List.map_nil]); first | done | rfl | (simp only [List.length_drop, List.length_take]; rfl)) ?_; (with_reducible refine (impl_RecoverLog.calls k t574 t575 t576 t577 t578 t579 _ ?side1 A9.out).mono ?_); (case side1 => exact GT.below hG_.out (by repeat (first | (with_reducible first | exact HB.out | apply below_alloc | apply pw_below_drewN | apply below_drew1 | refine below_set ?_ GE566.out) | exact HB.out)) (Nat.le_refl _)); rintro e w21 ⟨rfl, hb⟩; refine ⟨_, rfl, ?_⟩; have n0_ := Aside0.mk (Kd.R_below (by (with_reducible repeat (first | apply Kd.R_alloc | apply Kd.R_drewN | apply Kd.R_drew)); exact HO573.out) hb); have n1_ := Aside0.mk (blk_below (g := gb566) (o := .cells #[.string t561, .string t562, .int .i64 t563] 31 (0, 0)) (by (with_reducible repeat (first | refine blk_drewN ?_ _ | refine blk_drew ?_ | refine blk_alloc ?_ _)); exact BK566.out) hb); have n2_ := Aside0.mk (below_step (by repeat (first | (with_reducible first | exact HB.out | apply below_alloc | apply pw_below_drewN | apply below_drew1 | refine below_set ?_ GE566.out) | exact HB.out)) hb); clear HO573; clear BK566; clear HB; have HO573 := n0_; have BK566 := n1_; have HB := n2_; clear n0_ n1_ n2_; (try clear hb); (try clear hb2); (try clear hk); (try clear hi)) | ((with_reducible refine gate_dst (N := 11) rfl ?_); (try (refine gate_guard (by rfl) ?_; dsimp only)); refine box_event ?hg (N := 11) ?hd (cs := #[.string (⟨#[]⟩ : ByteArray), .string (⟨#[]⟩ : ByteArray), .int .i64 0]) (t := 31) ?hr ?_; (case hd => rfl); (case hg => rfl); (case hr => first | (go_simp; done) | (go_simp; rfl)); intro gb580 hg w22 hbox hb; have n0_ := Aside0.mk (Kd.R_below (by (with_reducible repeat (first | apply Kd.R_alloc | apply Kd.R_drewN | apply Kd.R_drew)); exact HO573.out) hb); have n1_ := Aside0.mk (blk_below (g := gb566) (o := .cells #[.string t561, .string t562, .int .i64 t563] 31 (0, 0)) (by (with_reducible repeat (first | refine blk_drewN ?_ _ | refine blk_drew ?_ | refine blk_alloc ?_ _)); exact BK566.out) hb); have n2_ := Aside0.mk (below_step (by repeat (first | (with_reducible first | exact HB.out | apply below_alloc | apply pw_below_drewN | apply below_drew1 | refine below_set ?_ GE566.out) | exact HB.out)) hb); have n3_ := Aside0.mk (hbox); have n4_ := Aside0.mk ((by rw [hg]; exact (below_size (by repeat (first | (with_reducible first | exact HB.out | apply below_alloc | apply pw_below_drewN | apply below_drew1 | refine below_set ?_ GE566.out) | exact HB.out))) : w.heap.size ≤ gb580)); have n5_ := Aside0.mk ((by rw [hg]; exact (below_size (by repeat (first | (with_reducible first | exact HB.out | apply below_alloc | apply pw_below_drewN | apply below_drew1 | refine below_set ?_ GE566.out) | exact HB.out))) : w.heap.size ≤ gb580)); have n6_ := Aside0.mk ((by rw [hg]; exact Nat.ne_of_lt (blk_lt (g := gb566) (o := .cells #[.string t561, .string t562, .int .i64 t563] 31 (0, 0)) (by (with_reducible repeat (first | refine blk_drewN ?_ _ | refine blk_drew ?_ | refine blk_alloc ?_ _)); exact BK566.out)) : gb566 ≠ gb580)); have n7_ := Aside0.mk ((by rw [hg]; exact Nat.ne_of_gt (blk_lt (g := gb566) (o := .cells #[.string t561, .string t562, .int .i64 t563] 31 (0, 0)) (by (with_reducible repeat (first | refine blk_drewN ?_ _ | refine blk_drew ?_ | refine blk_alloc ?_ _)); exact BK566.out)) : gb580 ≠ gb566)); clear HO573; clear BK566; clear HB; have HO573 := n0_; have BK566 := n1_; have HB := n2_; have BK580 := n3_; have GW580 := n4_; have GE580 := n5_; have NB566_580 := n6_; have NB580_566 := n7_; clear n0_ n1_ n2_ n3_ n4_ n5_ n6_ n7_; clear hb hbox hg; have hnb23 := NB580_566.out; have hnc23 := NB566_580.out; have hcz24_0 : w22.cell? ⟨gb580, 0, none⟩ = some (.string (⟨#[]⟩ : ByteArray)) := (blk_cell BK580.out 0).trans rfl; have hcz24_1 : w22.cell? ⟨gb580, 1, none⟩ = some (.string (⟨#[]⟩ : ByteArray)) := (blk_cell BK580.out 1).trans rfl; have hcz24_2 : w22.cell? ⟨gb580, 2, none⟩ = some (.int .i64 0) := (blk_cell BK580.out 2).trans rfl; have hfz24_0 := blk_frozen BK580.out 0; have hfz24_1 := blk_frozen BK580.out 1; have hfz24_2 := blk_frozen BK580.out 2) | ((with_reducible refine gate_callee (f := 16) rfl ?_); refine goesL_ (some 57) rfl rfl Tryd.func16 (by kernel_rfl) rfl #[.string t574] rfl (by (try simp only [List.map_toArray, List.map_cons, List.map_nil]); first | done | rfl | (simp only [List.length_drop, List.length_take]; rfl)) ?_; (with_reducible refine (spec_RecoverLog.calls k t574 t581 t582 t583 t584 t585 _ A10.out).mono ?_); rintro e w25 ⟨rfl, hb⟩; refine ⟨_, rfl, ?_⟩; have n0_ := Aside0.mk (Kd.R_below (by (with_reducible repeat (first | apply Kd.R_alloc | apply Kd.R_drewN | apply Kd.R_drew)); exact (Kd.R_mono (Kd.R_far (p := ⟨gb580, 2, none⟩) (Kd.R_far (p := ⟨gb580, 1, none⟩) (Kd.R_far (p := ⟨gb580, 0, none⟩) (Kd.R_types HO573.out BK580.out (by decide)) (fun _ hk => hk.2) (.string t575)) (fun _ hk => hk.2) (.string t576)) (fun _ hk => hk.2) (.int .i64 t577)) (fun _ h_ => h_.1))) hb); have n1_ := Aside0.mk (blk_below (g := gb566) (o := .cells #[.string t561, .string t562, .int .i64 t563] 31 (0, 0)) (by (with_reducible repeat (first | refine blk_drewN ?_ _ | refine blk_drew ?_ | refine blk_alloc ?_ _)); refine blk_far ?_ NB566_580.out _; (with_reducible repeat (first | refine blk_drewN ?_ _ | refine blk_drew ?_ | refine blk_alloc ?_ _)); refine blk_far ?_ NB566_580.out _; (with_reducible repeat (first | refine blk_drewN ?_ _ | refine blk_drew ?_ | refine blk_alloc ?_ _)); refine blk_far ?_ NB566_580.out _; (with_reducible repeat (first | refine blk_drewN ?_ _ | refine blk_drew ?_ | refine blk_alloc ?_ _)); exact BK566.out) hb); have n2_ := Aside0.mk (blk_below (g := gb580) (o := .cells #[.string t575, .string t576, .int .i64 t577] 31 (0, 0)) (by (with_reducible repeat (first | refine blk_drewN ?_ _ | refine blk_drew ?_ | refine blk_alloc ?_ _)); refine blk_put (cs := #[.string t575, .string t576, .int .i64 0]) ?_ 2 _ rfl; (with_reducible repeat (first | refine blk_drewN ?_ _ | refine blk_drew ?_ | refine blk_alloc ?_ _)); refine blk_put (cs := #[.string t575, .string (⟨#[]⟩ : ByteArray), .int .i64 0]) ?_ 1 _ rfl; (with_reducible repeat (first | refine blk_drewN ?_ _ | refine blk_drew ?_ | refine blk_alloc ?_ _)); refine blk_put (cs := #[.string (⟨#[]⟩ : ByteArray), .string (⟨#[]⟩ : ByteArray), .int .i64 0]) ?_ 0 _ rfl; (with_reducible repeat (first | refine blk_drewN ?_ _ | refine blk_drew ?_ | refine blk_alloc ?_ _)); exact BK580.out) hb); have n3_ := Aside0.mk (below_step (by repeat (first | (with_reducible first | exact HB.out | apply below_alloc | apply pw_below_drewN | apply below_drew1 | refine below_set ?_ GE566.out | refine below_set ?_ GE580.out) | exact HB.out)) hb); clear HO573; clear BK566; clear BK580; clear HB; have HO573 := n0_; have BK566 := n1_; have BK580 := n2_; have HB := n3_; clear n0_ n1_ n2_ n3_; (try clear hb); (try clear hb2); (try clear hk); (try clear hi)) | ((with_reducible refine gate_dst (N := 14) rfl ?_); (try (refine gate_guard (by rfl) ?_; dsimp only)); refine box_event ?hg (N := 14) ?hd (cs := #[.string (⟨#[]⟩ : ByteArray), .string (⟨#[]⟩ : ByteArray), .int .i64 0]) (t := 31) ?hr ?_; (case hd => rfl); (case hg => rfl); (case hr => first | (go_simp; done) | (go_simp; rfl)); intro gb586 hg w26 hbox hb; have n0_ := Aside0.mk (Kd.R_below (by (with_reducible repeat (first | apply Kd.R_alloc | apply Kd.R_drewN | apply Kd.R_drew)); exact HO573.out) hb); have n1_ := Aside0.mk (blk_below (g := gb566) (o := .cells #[.string t561, .string t562, .int .i64 t563] 31 (0, 0)) (by (with_reducible repeat (first | refine blk_drewN ?_ _ | refine blk_drew ?_ | refine blk_alloc ?_ _)); exact BK566.out) hb); have n2_ := Aside0.mk (blk_below (g := gb580) (o := .cells #[.string t575, .string t576, .int .i64 t577] 31 (0, 0)) (by (with_reducible repeat (first | refine blk_drewN ?_ _ | refine blk_drew ?_ | refine blk_alloc ?_ _)); exact BK580.out) hb); have n3_ := Aside0.mk (below_step (by repeat (first | (with_reducible first | exact HB.out | apply below_alloc | apply pw_below_drewN | apply below_drew1 | refine below_set ?_ GE566.out | refine below_set ?_ GE580.out) | exact HB.out)) hb); have n4_ := Aside0.mk (hbox); have n5_ := Aside0.mk ((by rw [hg]; exact (below_size (by repeat (first | (with_reducible first | exact HB.out | apply below_alloc | apply pw_below_drewN | apply below_drew1 | refine below_set ?_ GE566.out | refine below_set ?_ GE580.out) | exact HB.out))) : w.heap.size ≤ gb586)); have n6_ := Aside0.mk ((by rw [hg]; exact (below_size (by repeat (first | (with_reducible first | exact HB.out | apply below_alloc | apply pw_below_drewN | apply below_drew1 | refine below_set ?_ GE566.out | refine below_set ?_ GE580.out) | exact HB.out))) : w.heap.size ≤ gb586)); have n7_ := Aside0.mk ((by rw [hg]; exact Nat.ne_of_lt (blk_lt (g := gb566) (o := .cells #[.string t561, .string t562, .int .i64 t563] 31 (0, 0)) (by (with_reducible repeat (first | refine blk_drewN ?_ _ | refine blk_drew ?_ | refine blk_alloc ?_ _)); exact BK566.out)) : gb566 ≠ gb586)); have n8_ := Aside0.mk ((by rw [hg]; exact Nat.ne_of_gt (blk_lt (g := gb566) (o := .cells #[.string t561, .string t562, .int .i64 t563] 31 (0, 0)) (by (with_reducible repeat (first | refine blk_drewN ?_ _ | refine blk_drew ?_ | refine blk_alloc ?_ _)); exact BK566.out)) : gb586 ≠ gb566)); have n9_ := Aside0.mk ((by rw [hg]; exact Nat.ne_of_lt (blk_lt (g := gb580) (o := .cells #[.string t575, .string t576, .int .i64 t577] 31 (0, 0)) (by (with_reducible repeat (first | refine blk_drewN ?_ _ | refine blk_drew ?_ | refine blk_alloc ?_ _)); exact BK580.out)) : gb580 ≠ gb586)); have n10_ := Aside0.mk ((by rw [hg]; exact Nat.ne_of_gt (blk_lt (g := gb580) (o := .cells #[.string t575, .string t576, .int .i64 t577] 31 (0, 0)) (by (with_reducible repeat (first | refine blk_drewN ?_ _ | refine blk_drew ?_ | refine blk_alloc ?_ _)); exact BK580.out)) : gb586 ≠ gb580)); clear HO573; clear BK566; clear BK580; clear HB; have HO573 := n0_; have BK566 := n1_; have BK580 := n2_; have HB := n3_; have BK586 := n4_; have GW586 := n5_; have GE586 := n6_; have NB566_586 := n7_; have NB586_566 := n8_; have NB580_586 := n9_; have NB586_580 := n10_; clear n0_ n1_ n2_ n3_ n4_ n5_ n6_ n7_ n8_ n9_ n10_; clear hb hbox hg; have hnb27 := NB586_566.out; have hnc27 := NB566_586.out; have hnb28 := NB586_580.out; have hnc28 := NB580_586.out; have hcz29_0 : w26.cell? ⟨gb586, 0, none⟩ = some (.string (⟨#[]⟩ : ByteArray)) := (blk_cell BK586.out 0).trans rfl; have hcz29_1 : w26.cell? ⟨gb586, 1, none⟩ = some (.string (⟨#[]⟩ : ByteArray)) := (blk_cell BK586.out 1).trans rfl; have hcz29_2 : w26.cell? ⟨gb586, 2, none⟩ = some (.int .i64 0) := (blk_cell BK586.out 2).trans rfl; have hfz29_0 := blk_frozen BK586.out 0; have hfz29_1 := blk_frozen BK586.out 1; have hfz29_2 := blk_frozen BK586.out 2))
    (try simp only [Act.put, List.setIfInBounds_toArray, List.set_cons_zero, List.set_cons_succ])
    go_cut [83] (fun v83 wc => ∃ (kq : Nat) (x83_10 : Bool), v83 = .bool x83_10 ∧ Aside0 (laws_FnCrashes.j0 kq t564 t565 t567 t568 x83_10 t561 t562 t563 = some r) ∧ Aside0 (kq ≤ k) ∧ Aside0 (wc.heap[gb566]? = some (.cells #[.string t561, .string t562, .int .i64 t563] 31 (0, 0))) ∧ Aside0 (wc.heap[gb580]? = some (.cells #[.string t575, .string t576, .int .i64 t577] 31 (0, 0))) ∧ Aside0 (wc.heap[gb586]? = some (.cells #[.string t581, .string t582, .int .i64 t583] 31 (0, 0))) ∧ Aside0 (Below w.heap.size w wc))
    case first =>
      have H := HC11.out
      clear HC11
      by_cases c30 : t567.toList = t569.toList
      · rw [if_pos c30] at H
        have c30b0 : (t567.toList == t569.toList) = true := beq_iff_eq.mpr c30
        have c30b1 : (t567.toList != t569.toList) = false := bne_eq_false_iff_eq.mpr c30
        clear c30
        (first | rw [c30b0] | (simp only [i64_w, i32_w]; rw [c30b0]) | skip)
        (try rw [c30b1])
        (try rw [c30b2])
        by_cases c31 : (t568 != t570) = true
        · rw [if_pos c31] at H
          have c31b0 : (t568 != t570) = true := c31
          (try (have c31b1 : decide (t568 = t570) = false := by simpa using c31))
          (try (have c31b2 : (t568 == t570) = false := by simpa using c31))
          (try (have c31b3 : ¬ (t568 = t570) := by simpa using c31))
          clear c31
          have H' := Aside0.mk H
          clear H
          go_wp2
          go_meet
          case rel => exact ⟨_, (true), (by first | rfl | (simp; done) | (simp [*]; done)), H', ⟨by first | omega | exact Nat.le_refl _⟩, ⟨by (with_reducible repeat (first | refine blk_drewN ?_ _ | refine blk_drew ?_ | refine blk_alloc ?_ _)); refine blk_far ?_ NB566_586.out _; (with_reducible repeat (first | refine blk_drewN ?_ _ | refine blk_drew ?_ | refine blk_alloc ?_ _)); refine blk_far ?_ NB566_586.out _; (with_reducible repeat (first | refine blk_drewN ?_ _ | refine blk_drew ?_ | refine blk_alloc ?_ _)); refine blk_far ?_ NB566_586.out _; (with_reducible repeat (first | refine blk_drewN ?_ _ | refine blk_drew ?_ | refine blk_alloc ?_ _)); exact BK566.out⟩, ⟨by (with_reducible repeat (first | refine blk_drewN ?_ _ | refine blk_drew ?_ | refine blk_alloc ?_ _)); refine blk_far ?_ NB580_586.out _; (with_reducible repeat (first | refine blk_drewN ?_ _ | refine blk_drew ?_ | refine blk_alloc ?_ _)); refine blk_far ?_ NB580_586.out _; (with_reducible repeat (first | refine blk_drewN ?_ _ | refine blk_drew ?_ | refine blk_alloc ?_ _)); refine blk_far ?_ NB580_586.out _; (with_reducible repeat (first | refine blk_drewN ?_ _ | refine blk_drew ?_ | refine blk_alloc ?_ _)); exact BK580.out⟩, ⟨by (with_reducible repeat (first | refine blk_drewN ?_ _ | refine blk_drew ?_ | refine blk_alloc ?_ _)); refine blk_put (cs := #[.string t581, .string t582, .int .i64 0]) ?_ 2 _ rfl; (with_reducible repeat (first | refine blk_drewN ?_ _ | refine blk_drew ?_ | refine blk_alloc ?_ _)); refine blk_put (cs := #[.string t581, .string (⟨#[]⟩ : ByteArray), .int .i64 0]) ?_ 1 _ rfl; (with_reducible repeat (first | refine blk_drewN ?_ _ | refine blk_drew ?_ | refine blk_alloc ?_ _)); refine blk_put (cs := #[.string (⟨#[]⟩ : ByteArray), .string (⟨#[]⟩ : ByteArray), .int .i64 0]) ?_ 0 _ rfl; (with_reducible repeat (first | refine blk_drewN ?_ _ | refine blk_drew ?_ | refine blk_alloc ?_ _)); exact BK586.out⟩, ⟨by repeat (first | (with_reducible first | exact HB.out | apply below_alloc | apply pw_below_drewN | apply below_drew1 | refine below_set ?_ GE566.out | refine below_set ?_ GE580.out | refine below_set ?_ GE586.out) | exact HB.out)⟩⟩
        · rw [if_neg c31] at H
          have c31b0 : (t568 != t570) = false := by simpa using c31
          (try (have c31b1 : decide (t568 = t570) = true := by simpa using c31))
          (try (have c31b2 : (t568 == t570) = true := by simpa using c31))
          clear c31
          by_cases c32 : (!(t575.toList == t581.toList) || (!(t576.toList == t582.toList) || (!(t577 == t583)))) = true
          · rw [if_pos c32] at H
            have c32b0 : (!(t575.toList == t581.toList) || (!(t576.toList == t582.toList) || (!(t577 == t583)))) = true := c32
            clear c32
            have H' := Aside0.mk H
            clear H
            have hnb33 := NB580_566.out
            have hnc33 := NB566_580.out
            have hnb34 := NB580_586.out
            have hnc34 := NB586_580.out
            have hcz35_0 : w26.cell? ⟨gb580, 0, none⟩ = some (.string t575) := (blk_cell BK580.out 0).trans rfl
            have hcz35_1 : w26.cell? ⟨gb580, 1, none⟩ = some (.string t576) := (blk_cell BK580.out 1).trans rfl
            have hcz35_2 : w26.cell? ⟨gb580, 2, none⟩ = some (.int .i64 t577) := (blk_cell BK580.out 2).trans rfl
            have hfz35_0 := blk_frozen BK580.out 0
            have hfz35_1 := blk_frozen BK580.out 1
            have hfz35_2 := blk_frozen BK580.out 2
            have hnb36 := NB586_566.out
            have hnc36 := NB566_586.out
            have hcz37_0 : w26.cell? ⟨gb586, 0, none⟩ = some (.string (⟨#[]⟩ : ByteArray)) := (blk_cell BK586.out 0).trans rfl
            have hcz37_1 : w26.cell? ⟨gb586, 1, none⟩ = some (.string (⟨#[]⟩ : ByteArray)) := (blk_cell BK586.out 1).trans rfl
            have hcz37_2 : w26.cell? ⟨gb586, 2, none⟩ = some (.int .i64 0) := (blk_cell BK586.out 2).trans rfl
            have hfz37_0 := blk_frozen BK586.out 0
            have hfz37_1 := blk_frozen BK586.out 1
            have hfz37_2 := blk_frozen BK586.out 2
            go_wp2
            go_meet
            case rel => exact ⟨_, (true), (by first | rfl | (simp; done) | (simp [*]; done)), H', ⟨by first | omega | exact Nat.le_refl _⟩, ⟨by (with_reducible repeat (first | refine blk_drewN ?_ _ | refine blk_drew ?_ | refine blk_alloc ?_ _)); refine blk_far ?_ NB566_586.out _; (with_reducible repeat (first | refine blk_drewN ?_ _ | refine blk_drew ?_ | refine blk_alloc ?_ _)); refine blk_far ?_ NB566_586.out _; (with_reducible repeat (first | refine blk_drewN ?_ _ | refine blk_drew ?_ | refine blk_alloc ?_ _)); refine blk_far ?_ NB566_586.out _; (with_reducible repeat (first | refine blk_drewN ?_ _ | refine blk_drew ?_ | refine blk_alloc ?_ _)); exact BK566.out⟩, ⟨by (with_reducible repeat (first | refine blk_drewN ?_ _ | refine blk_drew ?_ | refine blk_alloc ?_ _)); refine blk_far ?_ NB580_586.out _; (with_reducible repeat (first | refine blk_drewN ?_ _ | refine blk_drew ?_ | refine blk_alloc ?_ _)); refine blk_far ?_ NB580_586.out _; (with_reducible repeat (first | refine blk_drewN ?_ _ | refine blk_drew ?_ | refine blk_alloc ?_ _)); refine blk_far ?_ NB580_586.out _; (with_reducible repeat (first | refine blk_drewN ?_ _ | refine blk_drew ?_ | refine blk_alloc ?_ _)); exact BK580.out⟩, ⟨by (with_reducible repeat (first | refine blk_drewN ?_ _ | refine blk_drew ?_ | refine blk_alloc ?_ _)); refine blk_put (cs := #[.string t581, .string t582, .int .i64 0]) ?_ 2 _ rfl; (with_reducible repeat (first | refine blk_drewN ?_ _ | refine blk_drew ?_ | refine blk_alloc ?_ _)); refine blk_put (cs := #[.string t581, .string (⟨#[]⟩ : ByteArray), .int .i64 0]) ?_ 1 _ rfl; (with_reducible repeat (first | refine blk_drewN ?_ _ | refine blk_drew ?_ | refine blk_alloc ?_ _)); refine blk_put (cs := #[.string (⟨#[]⟩ : ByteArray), .string (⟨#[]⟩ : ByteArray), .int .i64 0]) ?_ 0 _ rfl; (with_reducible repeat (first | refine blk_drewN ?_ _ | refine blk_drew ?_ | refine blk_alloc ?_ _)); exact BK586.out⟩, ⟨by repeat (first | (with_reducible first | exact HB.out | apply below_alloc | apply pw_below_drewN | apply below_drew1 | refine below_set ?_ GE566.out | refine below_set ?_ GE580.out | refine below_set ?_ GE586.out) | exact HB.out)⟩⟩
          · rw [if_neg c32] at H
            have c32b0 : (!(t575.toList == t581.toList) || (!(t576.toList == t582.toList) || (!(t577 == t583)))) = false := by simpa using c32
            clear c32
            by_cases c38 : t578 = t584
            · rw [if_pos c38] at H
              have c38b0 : (t578 == t584) = true := beq_iff_eq.mpr c38
              have c38b1 : (t578 != t584) = false := bne_eq_false_iff_eq.mpr c38
              clear c38
              have H' := Aside0.mk H
              clear H
              have hnb39 := NB580_566.out
              have hnc39 := NB566_580.out
              have hnb40 := NB580_586.out
              have hnc40 := NB586_580.out
              have hcz41_0 : w26.cell? ⟨gb580, 0, none⟩ = some (.string t575) := (blk_cell BK580.out 0).trans rfl
              have hcz41_1 : w26.cell? ⟨gb580, 1, none⟩ = some (.string t576) := (blk_cell BK580.out 1).trans rfl
              have hcz41_2 : w26.cell? ⟨gb580, 2, none⟩ = some (.int .i64 t577) := (blk_cell BK580.out 2).trans rfl
              have hfz41_0 := blk_frozen BK580.out 0
              have hfz41_1 := blk_frozen BK580.out 1
              have hfz41_2 := blk_frozen BK580.out 2
              have hnb42 := NB586_566.out
              have hnc42 := NB566_586.out
              have hcz43_0 : w26.cell? ⟨gb586, 0, none⟩ = some (.string (⟨#[]⟩ : ByteArray)) := (blk_cell BK586.out 0).trans rfl
              have hcz43_1 : w26.cell? ⟨gb586, 1, none⟩ = some (.string (⟨#[]⟩ : ByteArray)) := (blk_cell BK586.out 1).trans rfl
              have hcz43_2 : w26.cell? ⟨gb586, 2, none⟩ = some (.int .i64 0) := (blk_cell BK586.out 2).trans rfl
              have hfz43_0 := blk_frozen BK586.out 0
              have hfz43_1 := blk_frozen BK586.out 1
              have hfz43_2 := blk_frozen BK586.out 2
              go_wp2
              go_meet
              case rel => exact ⟨_, ((t579 != t585)), (by first | rfl | (simp; done) | (simp [*]; done)), H', ⟨by first | omega | exact Nat.le_refl _⟩, ⟨by (with_reducible repeat (first | refine blk_drewN ?_ _ | refine blk_drew ?_ | refine blk_alloc ?_ _)); refine blk_far ?_ NB566_586.out _; (with_reducible repeat (first | refine blk_drewN ?_ _ | refine blk_drew ?_ | refine blk_alloc ?_ _)); refine blk_far ?_ NB566_586.out _; (with_reducible repeat (first | refine blk_drewN ?_ _ | refine blk_drew ?_ | refine blk_alloc ?_ _)); refine blk_far ?_ NB566_586.out _; (with_reducible repeat (first | refine blk_drewN ?_ _ | refine blk_drew ?_ | refine blk_alloc ?_ _)); exact BK566.out⟩, ⟨by (with_reducible repeat (first | refine blk_drewN ?_ _ | refine blk_drew ?_ | refine blk_alloc ?_ _)); refine blk_far ?_ NB580_586.out _; (with_reducible repeat (first | refine blk_drewN ?_ _ | refine blk_drew ?_ | refine blk_alloc ?_ _)); refine blk_far ?_ NB580_586.out _; (with_reducible repeat (first | refine blk_drewN ?_ _ | refine blk_drew ?_ | refine blk_alloc ?_ _)); refine blk_far ?_ NB580_586.out _; (with_reducible repeat (first | refine blk_drewN ?_ _ | refine blk_drew ?_ | refine blk_alloc ?_ _)); exact BK580.out⟩, ⟨by (with_reducible repeat (first | refine blk_drewN ?_ _ | refine blk_drew ?_ | refine blk_alloc ?_ _)); refine blk_put (cs := #[.string t581, .string t582, .int .i64 0]) ?_ 2 _ rfl; (with_reducible repeat (first | refine blk_drewN ?_ _ | refine blk_drew ?_ | refine blk_alloc ?_ _)); refine blk_put (cs := #[.string t581, .string (⟨#[]⟩ : ByteArray), .int .i64 0]) ?_ 1 _ rfl; (with_reducible repeat (first | refine blk_drewN ?_ _ | refine blk_drew ?_ | refine blk_alloc ?_ _)); refine blk_put (cs := #[.string (⟨#[]⟩ : ByteArray), .string (⟨#[]⟩ : ByteArray), .int .i64 0]) ?_ 0 _ rfl; (with_reducible repeat (first | refine blk_drewN ?_ _ | refine blk_drew ?_ | refine blk_alloc ?_ _)); exact BK586.out⟩, ⟨by repeat (first | (with_reducible first | exact HB.out | apply below_alloc | apply pw_below_drewN | apply below_drew1 | refine below_set ?_ GE566.out | refine below_set ?_ GE580.out | refine below_set ?_ GE586.out) | exact HB.out)⟩⟩
            · rw [if_neg c38] at H
              have c38b0 : (t578 == t584) = false := beq_eq_false_iff_ne.mpr c38
              have c38b1 : (t578 != t584) = true := bne_iff_ne.mpr c38
              have H' := Aside0.mk H
              clear H
              have hnb44 := NB580_566.out
              have hnc44 := NB566_580.out
              have hnb45 := NB580_586.out
              have hnc45 := NB586_580.out
              have hcz46_0 : w26.cell? ⟨gb580, 0, none⟩ = some (.string t575) := (blk_cell BK580.out 0).trans rfl
              have hcz46_1 : w26.cell? ⟨gb580, 1, none⟩ = some (.string t576) := (blk_cell BK580.out 1).trans rfl
              have hcz46_2 : w26.cell? ⟨gb580, 2, none⟩ = some (.int .i64 t577) := (blk_cell BK580.out 2).trans rfl
              have hfz46_0 := blk_frozen BK580.out 0
              have hfz46_1 := blk_frozen BK580.out 1
              have hfz46_2 := blk_frozen BK580.out 2
              have hnb47 := NB586_566.out
              have hnc47 := NB566_586.out
              have hcz48_0 : w26.cell? ⟨gb586, 0, none⟩ = some (.string (⟨#[]⟩ : ByteArray)) := (blk_cell BK586.out 0).trans rfl
              have hcz48_1 : w26.cell? ⟨gb586, 1, none⟩ = some (.string (⟨#[]⟩ : ByteArray)) := (blk_cell BK586.out 1).trans rfl
              have hcz48_2 : w26.cell? ⟨gb586, 2, none⟩ = some (.int .i64 0) := (blk_cell BK586.out 2).trans rfl
              have hfz48_0 := blk_frozen BK586.out 0
              have hfz48_1 := blk_frozen BK586.out 1
              have hfz48_2 := blk_frozen BK586.out 2
              go_wp2
              go_meet
              case rel => exact ⟨_, (true), (by first | rfl | (simp; done) | (simp [*]; done)), H', ⟨by first | omega | exact Nat.le_refl _⟩, ⟨by (with_reducible repeat (first | refine blk_drewN ?_ _ | refine blk_drew ?_ | refine blk_alloc ?_ _)); refine blk_far ?_ NB566_586.out _; (with_reducible repeat (first | refine blk_drewN ?_ _ | refine blk_drew ?_ | refine blk_alloc ?_ _)); refine blk_far ?_ NB566_586.out _; (with_reducible repeat (first | refine blk_drewN ?_ _ | refine blk_drew ?_ | refine blk_alloc ?_ _)); refine blk_far ?_ NB566_586.out _; (with_reducible repeat (first | refine blk_drewN ?_ _ | refine blk_drew ?_ | refine blk_alloc ?_ _)); exact BK566.out⟩, ⟨by (with_reducible repeat (first | refine blk_drewN ?_ _ | refine blk_drew ?_ | refine blk_alloc ?_ _)); refine blk_far ?_ NB580_586.out _; (with_reducible repeat (first | refine blk_drewN ?_ _ | refine blk_drew ?_ | refine blk_alloc ?_ _)); refine blk_far ?_ NB580_586.out _; (with_reducible repeat (first | refine blk_drewN ?_ _ | refine blk_drew ?_ | refine blk_alloc ?_ _)); refine blk_far ?_ NB580_586.out _; (with_reducible repeat (first | refine blk_drewN ?_ _ | refine blk_drew ?_ | refine blk_alloc ?_ _)); exact BK580.out⟩, ⟨by (with_reducible repeat (first | refine blk_drewN ?_ _ | refine blk_drew ?_ | refine blk_alloc ?_ _)); refine blk_put (cs := #[.string t581, .string t582, .int .i64 0]) ?_ 2 _ rfl; (with_reducible repeat (first | refine blk_drewN ?_ _ | refine blk_drew ?_ | refine blk_alloc ?_ _)); refine blk_put (cs := #[.string t581, .string (⟨#[]⟩ : ByteArray), .int .i64 0]) ?_ 1 _ rfl; (with_reducible repeat (first | refine blk_drewN ?_ _ | refine blk_drew ?_ | refine blk_alloc ?_ _)); refine blk_put (cs := #[.string (⟨#[]⟩ : ByteArray), .string (⟨#[]⟩ : ByteArray), .int .i64 0]) ?_ 0 _ rfl; (with_reducible repeat (first | refine blk_drewN ?_ _ | refine blk_drew ?_ | refine blk_alloc ?_ _)); exact BK586.out⟩, ⟨by repeat (first | (with_reducible first | exact HB.out | apply below_alloc | apply pw_below_drewN | apply below_drew1 | refine below_set ?_ GE566.out | refine below_set ?_ GE580.out | refine below_set ?_ GE586.out) | exact HB.out)⟩⟩
      · rw [if_neg c30] at H
        have c30b0 : (t567.toList == t569.toList) = false := beq_eq_false_iff_ne.mpr c30
        have c30b1 : (t567.toList != t569.toList) = true := bne_iff_ne.mpr c30
        (first | rw [c30b0] | (simp only [i64_w, i32_w]; rw [c30b0]) | skip)
        (try rw [c30b1])
        (try rw [c30b2])
        have H' := Aside0.mk H
        clear H
        go_wp2
        go_meet
        case rel => exact ⟨_, (true), (by first | rfl | (simp; done) | (simp [*]; done)), H', ⟨by first | omega | exact Nat.le_refl _⟩, ⟨by (with_reducible repeat (first | refine blk_drewN ?_ _ | refine blk_drew ?_ | refine blk_alloc ?_ _)); refine blk_far ?_ NB566_586.out _; (with_reducible repeat (first | refine blk_drewN ?_ _ | refine blk_drew ?_ | refine blk_alloc ?_ _)); refine blk_far ?_ NB566_586.out _; (with_reducible repeat (first | refine blk_drewN ?_ _ | refine blk_drew ?_ | refine blk_alloc ?_ _)); refine blk_far ?_ NB566_586.out _; (with_reducible repeat (first | refine blk_drewN ?_ _ | refine blk_drew ?_ | refine blk_alloc ?_ _)); exact BK566.out⟩, ⟨by (with_reducible repeat (first | refine blk_drewN ?_ _ | refine blk_drew ?_ | refine blk_alloc ?_ _)); refine blk_far ?_ NB580_586.out _; (with_reducible repeat (first | refine blk_drewN ?_ _ | refine blk_drew ?_ | refine blk_alloc ?_ _)); refine blk_far ?_ NB580_586.out _; (with_reducible repeat (first | refine blk_drewN ?_ _ | refine blk_drew ?_ | refine blk_alloc ?_ _)); refine blk_far ?_ NB580_586.out _; (with_reducible repeat (first | refine blk_drewN ?_ _ | refine blk_drew ?_ | refine blk_alloc ?_ _)); exact BK580.out⟩, ⟨by (with_reducible repeat (first | refine blk_drewN ?_ _ | refine blk_drew ?_ | refine blk_alloc ?_ _)); refine blk_put (cs := #[.string t581, .string t582, .int .i64 0]) ?_ 2 _ rfl; (with_reducible repeat (first | refine blk_drewN ?_ _ | refine blk_drew ?_ | refine blk_alloc ?_ _)); refine blk_put (cs := #[.string t581, .string (⟨#[]⟩ : ByteArray), .int .i64 0]) ?_ 1 _ rfl; (with_reducible repeat (first | refine blk_drewN ?_ _ | refine blk_drew ?_ | refine blk_alloc ?_ _)); refine blk_put (cs := #[.string (⟨#[]⟩ : ByteArray), .string (⟨#[]⟩ : ByteArray), .int .i64 0]) ?_ 0 _ rfl; (with_reducible repeat (first | refine blk_drewN ?_ _ | refine blk_drew ?_ | refine blk_alloc ?_ _)); exact BK586.out⟩, ⟨by repeat (first | (with_reducible first | exact HB.out | apply below_alloc | apply pw_below_drewN | apply below_drew1 | refine below_set ?_ GE566.out | refine below_set ?_ GE580.out | refine below_set ?_ GE586.out) | exact HB.out)⟩⟩
    case rest =>
      clear HC11
      try clear c1
      try clear c2
      try clear p2
      try clear c3
      try clear c4
      try clear c11
      try clear c16
      try clear c17
      try clear c23
      try clear c24
      try clear c27
      try clear c28
      try clear c30
      try clear c30b0
      try clear c30b1
      try clear c30b2
      try clear c31
      try clear c31b0
      try clear c31b1
      try clear c31b2
      try clear c32
      try clear c32b0
      try clear c33
      try clear c34
      try clear c36
      try clear c37
      try clear c38
      try clear c38b0
      try clear c38b1
      try clear c39
      try clear c40
      try clear c42
      try clear c43
      try clear c44
      try clear c45
      try clear c47
      try clear hcz14_0
      try clear hcz14_1
      try clear hcz14_2
      try clear hcz16_0
      try clear hcz16_1
      try clear hcz16_2
      try clear hcz24_0
      try clear hcz24_1
      try clear hcz24_2
      try clear hcz29_0
      try clear hcz29_1
      try clear hcz29_2
      try clear hcz35_0
      try clear hcz35_1
      try clear hcz35_2
      try clear hcz37_0
      try clear hcz37_1
      try clear hcz37_2
      try clear hcz41_0
      try clear hcz41_1
      try clear hcz41_2
      try clear hcz43_0
      try clear hcz43_1
      try clear hcz43_2
      try clear hcz46_0
      try clear hcz46_1
      try clear hcz46_2
      try clear hcz48_0
      try clear hcz48_1
      try clear hcz48_2
      try clear hfz14_0
      try clear hfz14_1
      try clear hfz14_2
      try clear hfz16_0
      try clear hfz16_1
      try clear hfz16_2
      try clear hfz24_0
      try clear hfz24_1
      try clear hfz24_2
      try clear hfz29_0
      try clear hfz29_1
      try clear hfz29_2
      try clear hfz35_0
      try clear hfz35_1
      try clear hfz35_2
      try clear hfz37_0
      try clear hfz37_1
      try clear hfz37_2
      try clear hfz41_0
      try clear hfz41_1
      try clear hfz41_2
      try clear hfz43_0
      try clear hfz43_1
      try clear hfz43_2
      try clear hfz46_0
      try clear hfz46_1
      try clear hfz46_2
      try clear hfz48_0
      try clear hfz48_1
      try clear hfz48_2
      obtain ⟨kq, x83_10, rfl, HA, HJ10, BK566, BK580, BK586, HB⟩ := hcut
      cases kq with
      | zero => exact absurd HA.out (by simp [laws_FnCrashes.j0])
      | succ kj10 =>
        have H := HA.out
        clear HA
        simp only [laws_FnCrashes.j0] at H
        by_cases c49 : x83_10 = true
        · subst c49
          have H1 : (some false) = some r := by rw [if_pos rfl] at H; exact H
          clear H
          have H := H1
          clear H1
          obtain rfl := Option.some.inj H
          go_wp2
          go_ret
          exact ⟨by first | rfl | (simp [errW_none, errW_some] <;> rfl) | (simp [*, errW_none, errW_some] <;> rfl), by repeat (first | (with_reducible first | exact HB.out | apply below_alloc | apply pw_below_drewN | apply below_drew1 | refine below_set ?_ GE566.out | refine below_set ?_ GE580.out | refine below_set ?_ GE586.out) | exact HB.out)⟩
        · replace c49 := Bool.eq_false_iff.mpr c49
          subst c49
          have H1 : (if t568 = true then ((impl_RecoverLog.f kj10 t567).bind fun bt587 => (if bt587.2.2.2.2 = true then ((impl_IsValidLog.f kj10 bt587.1 bt587.2.1 bt587.2.2.1).bind fun t593 => (if t593 = true then (if bt587.2.2.2.1 < (t561.size : Int) then (laws_FnCrashes.j1 kj10 t564 t565 true t561 t562 t563 bt587.1 bt587.2.1 bt587.2.2.1) else (laws_FnCrashes.j1 kj10 t564 t565 ((bt587.1.size : Int) != bt587.2.2.2.1) t561 t562 t563 bt587.1 bt587.2.1 bt587.2.2.1)) else (laws_FnCrashes.j1 kj10 t564 t565 true t561 t562 t563 bt587.1 bt587.2.1 bt587.2.2.1))) else (laws_FnCrashes.j1 kj10 t564 t565 true t561 t562 t563 bt587.1 bt587.2.1 bt587.2.2.1))) else (some true)) = some r := by rw [if_neg (show ¬ (false = true) by decide)] at H; exact H
          clear H
          have H := H1
          clear H1
          by_cases c50 : t568 = true
          · subst c50
            have H1 : ((impl_RecoverLog.f kj10 t567).bind fun bt587 => (if bt587.2.2.2.2 = true then ((impl_IsValidLog.f kj10 bt587.1 bt587.2.1 bt587.2.2.1).bind fun t593 => (if t593 = true then (if bt587.2.2.2.1 < (t561.size : Int) then (laws_FnCrashes.j1 kj10 t564 t565 true t561 t562 t563 bt587.1 bt587.2.1 bt587.2.2.1) else (laws_FnCrashes.j1 kj10 t564 t565 ((bt587.1.size : Int) != bt587.2.2.2.1) t561 t562 t563 bt587.1 bt587.2.1 bt587.2.2.1)) else (laws_FnCrashes.j1 kj10 t564 t565 true t561 t562 t563 bt587.1 bt587.2.1 bt587.2.2.1))) else (laws_FnCrashes.j1 kj10 t564 t565 true t561 t562 t563 bt587.1 bt587.2.1 bt587.2.2.1))) = some r := by rw [if_pos rfl] at H; exact H
            clear H
            have H := H1
            clear H1
            replace H := Option.bind_eq_some_iff.mp H
            obtain ⟨⟨t587, t588, t589, t590, t591⟩, A510, H⟩ := H
            replace H : (if t591 = true then ((impl_IsValidLog.f kj10 t587 t588 t589).bind fun t593 => (if t593 = true then (if t590 < (t561.size : Int) then (laws_FnCrashes.j1 kj10 t564 t565 true t561 t562 t563 t587 t588 t589) else (laws_FnCrashes.j1 kj10 t564 t565 ((t587.size : Int) != t590) t561 t562 t563 t587 t588 t589)) else (laws_FnCrashes.j1 kj10 t564 t565 true t561 t562 t563 t587 t588 t589))) else (laws_FnCrashes.j1 kj10 t564 t565 true t561 t562 t563 t587 t588 t589)) = some r := H
            have A51 := Aside0.mk A510
            clear A510
            have HC52 := Aside0.mk H
            clear H
            go_upto_region 14 with (first | ((with_reducible refine gate_callee (f := 17) rfl ?_); refine goesL_ (some 88) rfl rfl Tryd.func17 (by kernel_rfl) rfl #[.string t567] rfl (by (try simp only [List.map_toArray, List.map_cons, List.map_nil]); first | done | rfl | (simp only [List.length_drop, List.length_take]; rfl)) ?_; (with_reducible refine (impl_RecoverLog.calls kj10 t567 t587 t588 t589 t590 t591 _ ?side1 A51.out).mono ?_); (case side1 => exact GT.below hG_.out (by repeat (first | (with_reducible first | exact HB.out | apply below_alloc | apply pw_below_drewN | apply below_drew1 | refine below_set ?_ GE566.out | refine below_set ?_ GE580.out | refine below_set ?_ GE586.out) | exact HB.out)) (Nat.le_refl _)); rintro e w53 ⟨rfl, hb⟩; refine ⟨_, rfl, ?_⟩; have n0_ := Aside0.mk (blk_below (g := gb566) (o := .cells #[.string t561, .string t562, .int .i64 t563] 31 (0, 0)) (by (with_reducible repeat (first | refine blk_drewN ?_ _ | refine blk_drew ?_ | refine blk_alloc ?_ _)); exact BK566.out) hb); have n1_ := Aside0.mk (blk_below (g := gb580) (o := .cells #[.string t575, .string t576, .int .i64 t577] 31 (0, 0)) (by (with_reducible repeat (first | refine blk_drewN ?_ _ | refine blk_drew ?_ | refine blk_alloc ?_ _)); exact BK580.out) hb); have n2_ := Aside0.mk (blk_below (g := gb586) (o := .cells #[.string t581, .string t582, .int .i64 t583] 31 (0, 0)) (by (with_reducible repeat (first | refine blk_drewN ?_ _ | refine blk_drew ?_ | refine blk_alloc ?_ _)); exact BK586.out) hb); have n3_ := Aside0.mk (below_step (by repeat (first | (with_reducible first | exact HB.out | apply below_alloc | apply pw_below_drewN | apply below_drew1 | refine below_set ?_ GE566.out | refine below_set ?_ GE580.out | refine below_set ?_ GE586.out) | exact HB.out)) hb); clear BK566; clear BK580; clear BK586; clear HB; have BK566 := n0_; have BK580 := n1_; have BK586 := n2_; have HB := n3_; clear n0_ n1_ n2_ n3_; (try clear hb); (try clear hb2); (try clear hk); (try clear hi)) | ((with_reducible refine gate_dst (N := 17) rfl ?_); (try (refine gate_guard (by rfl) ?_; dsimp only)); refine box_event ?hg (N := 17) ?hd (cs := #[.string (⟨#[]⟩ : ByteArray), .string (⟨#[]⟩ : ByteArray), .int .i64 0]) (t := 31) ?hr ?_; (case hd => rfl); (case hg => rfl); (case hr => first | (go_simp; done) | (go_simp; rfl)); intro gb592 hg w54 hbox hb; have n0_ := Aside0.mk (blk_below (g := gb566) (o := .cells #[.string t561, .string t562, .int .i64 t563] 31 (0, 0)) (by (with_reducible repeat (first | refine blk_drewN ?_ _ | refine blk_drew ?_ | refine blk_alloc ?_ _)); exact BK566.out) hb); have n1_ := Aside0.mk (blk_below (g := gb580) (o := .cells #[.string t575, .string t576, .int .i64 t577] 31 (0, 0)) (by (with_reducible repeat (first | refine blk_drewN ?_ _ | refine blk_drew ?_ | refine blk_alloc ?_ _)); exact BK580.out) hb); have n2_ := Aside0.mk (blk_below (g := gb586) (o := .cells #[.string t581, .string t582, .int .i64 t583] 31 (0, 0)) (by (with_reducible repeat (first | refine blk_drewN ?_ _ | refine blk_drew ?_ | refine blk_alloc ?_ _)); exact BK586.out) hb); have n3_ := Aside0.mk (below_step (by repeat (first | (with_reducible first | exact HB.out | apply below_alloc | apply pw_below_drewN | apply below_drew1 | refine below_set ?_ GE566.out | refine below_set ?_ GE580.out | refine below_set ?_ GE586.out) | exact HB.out)) hb); have n4_ := Aside0.mk (hbox); have n5_ := Aside0.mk ((by rw [hg]; exact (below_size (by repeat (first | (with_reducible first | exact HB.out | apply below_alloc | apply pw_below_drewN | apply below_drew1 | refine below_set ?_ GE566.out | refine below_set ?_ GE580.out | refine below_set ?_ GE586.out) | exact HB.out))) : w.heap.size ≤ gb592)); have n6_ := Aside0.mk ((by rw [hg]; exact (below_size (by repeat (first | (with_reducible first | exact HB.out | apply below_alloc | apply pw_below_drewN | apply below_drew1 | refine below_set ?_ GE566.out | refine below_set ?_ GE580.out | refine below_set ?_ GE586.out) | exact HB.out))) : w.heap.size ≤ gb592)); have n7_ := Aside0.mk ((by rw [hg]; exact Nat.ne_of_lt (blk_lt (g := gb566) (o := .cells #[.string t561, .string t562, .int .i64 t563] 31 (0, 0)) (by (with_reducible repeat (first | refine blk_drewN ?_ _ | refine blk_drew ?_ | refine blk_alloc ?_ _)); exact BK566.out)) : gb566 ≠ gb592)); have n8_ := Aside0.mk ((by rw [hg]; exact Nat.ne_of_gt (blk_lt (g := gb566) (o := .cells #[.string t561, .string t562, .int .i64 t563] 31 (0, 0)) (by (with_reducible repeat (first | refine blk_drewN ?_ _ | refine blk_drew ?_ | refine blk_alloc ?_ _)); exact BK566.out)) : gb592 ≠ gb566)); have n9_ := Aside0.mk ((by rw [hg]; exact Nat.ne_of_lt (blk_lt (g := gb580) (o := .cells #[.string t575, .string t576, .int .i64 t577] 31 (0, 0)) (by (with_reducible repeat (first | refine blk_drewN ?_ _ | refine blk_drew ?_ | refine blk_alloc ?_ _)); exact BK580.out)) : gb580 ≠ gb592)); have n10_ := Aside0.mk ((by rw [hg]; exact Nat.ne_of_gt (blk_lt (g := gb580) (o := .cells #[.string t575, .string t576, .int .i64 t577] 31 (0, 0)) (by (with_reducible repeat (first | refine blk_drewN ?_ _ | refine blk_drew ?_ | refine blk_alloc ?_ _)); exact BK580.out)) : gb592 ≠ gb580)); have n11_ := Aside0.mk ((by rw [hg]; exact Nat.ne_of_lt (blk_lt (g := gb586) (o := .cells #[.string t581, .string t582, .int .i64 t583] 31 (0, 0)) (by (with_reducible repeat (first | refine blk_drewN ?_ _ | refine blk_drew ?_ | refine blk_alloc ?_ _)); exact BK586.out)) : gb586 ≠ gb592)); have n12_ := Aside0.mk ((by rw [hg]; exact Nat.ne_of_gt (blk_lt (g := gb586) (o := .cells #[.string t581, .string t582, .int .i64 t583] 31 (0, 0)) (by (with_reducible repeat (first | refine blk_drewN ?_ _ | refine blk_drew ?_ | refine blk_alloc ?_ _)); exact BK586.out)) : gb592 ≠ gb586)); clear BK566; clear BK580; clear BK586; clear HB; have BK566 := n0_; have BK580 := n1_; have BK586 := n2_; have HB := n3_; have BK592 := n4_; have GW592 := n5_; have GE592 := n6_; have NB566_592 := n7_; have NB592_566 := n8_; have NB580_592 := n9_; have NB592_580 := n10_; have NB586_592 := n11_; have NB592_586 := n12_; clear n0_ n1_ n2_ n3_ n4_ n5_ n6_ n7_ n8_ n9_ n10_ n11_ n12_; clear hb hbox hg; have hnb55 := NB592_566.out; have hnc55 := NB566_592.out; have hnb56 := NB592_580.out; have hnc56 := NB580_592.out; have hnb57 := NB592_586.out; have hnc57 := NB586_592.out; have hcz58_0 : w54.cell? ⟨gb592, 0, none⟩ = some (.string (⟨#[]⟩ : ByteArray)) := (blk_cell BK592.out 0).trans rfl; have hcz58_1 : w54.cell? ⟨gb592, 1, none⟩ = some (.string (⟨#[]⟩ : ByteArray)) := (blk_cell BK592.out 1).trans rfl; have hcz58_2 : w54.cell? ⟨gb592, 2, none⟩ = some (.int .i64 0) := (blk_cell BK592.out 2).trans rfl; have hfz58_0 := blk_frozen BK592.out 0; have hfz58_1 := blk_frozen BK592.out 1; have hfz58_2 := blk_frozen BK592.out 2))
            (try simp only [Act.put, List.setIfInBounds_toArray, List.set_cons_zero, List.set_cons_succ])
            go_cut [112] (fun v112 wc => ∃ (kq : Nat) (x112_51 : Bool), v112 = .bool x112_51 ∧ Aside0 (laws_FnCrashes.j1 kq t564 t565 x112_51 t561 t562 t563 t587 t588 t589 = some r) ∧ Aside0 (kq ≤ kj10) ∧ Aside0 (wc.heap[gb566]? = some (.cells #[.string t561, .string t562, .int .i64 t563] 31 (0, 0))) ∧ Aside0 (wc.heap[gb580]? = some (.cells #[.string t575, .string t576, .int .i64 t577] 31 (0, 0))) ∧ Aside0 (wc.heap[gb586]? = some (.cells #[.string t581, .string t582, .int .i64 t583] 31 (0, 0))) ∧ Aside0 (wc.heap[gb592]? = some (.cells #[.string t587, .string t588, .int .i64 t589] 31 (0, 0))) ∧ Aside0 (Below w.heap.size w wc))
            case first =>
              have H := HC52.out
              clear HC52
              by_cases c59 : t591 = true
              · subst c59
                have H1 : ((impl_IsValidLog.f kj10 t587 t588 t589).bind fun t593 => (if t593 = true then (if t590 < (t561.size : Int) then (laws_FnCrashes.j1 kj10 t564 t565 true t561 t562 t563 t587 t588 t589) else (laws_FnCrashes.j1 kj10 t564 t565 ((t587.size : Int) != t590) t561 t562 t563 t587 t588 t589)) else (laws_FnCrashes.j1 kj10 t564 t565 true t561 t562 t563 t587 t588 t589))) = some r := by rw [if_pos rfl] at H; exact H
                clear H
                have H := H1
                clear H1
                replace H := Option.bind_eq_some_iff.mp H
                obtain ⟨t593, A600, H⟩ := H
                replace H : (if t593 = true then (if t590 < (t561.size : Int) then (laws_FnCrashes.j1 kj10 t564 t565 true t561 t562 t563 t587 t588 t589) else (laws_FnCrashes.j1 kj10 t564 t565 ((t587.size : Int) != t590) t561 t562 t563 t587 t588 t589)) else (laws_FnCrashes.j1 kj10 t564 t565 true t561 t562 t563 t587 t588 t589)) = some r := H
                have A60 := Aside0.mk A600
                clear A600
                by_cases c61 : t593 = true
                · subst c61
                  have H1 : (if t590 < (t561.size : Int) then (laws_FnCrashes.j1 kj10 t564 t565 true t561 t562 t563 t587 t588 t589) else (laws_FnCrashes.j1 kj10 t564 t565 ((t587.size : Int) != t590) t561 t562 t563 t587 t588 t589)) = some r := by rw [if_pos rfl] at H; exact H
                  clear H
                  have H := H1
                  clear H1
                  by_cases c62 : t590 < (t561.size : Int)
                  · rw [if_pos c62] at H
                    have c62b0 : decide (t590 < (t561.size : Int)) = true := decide_eq_true c62
                    clear c62
                    (first | rw [c62b0] | (simp only [i64_w, i32_w]; rw [c62b0]) | skip)
                    (try rw [c62b1])
                    (try rw [c62b2])
                    have H' := Aside0.mk H
                    clear H
                    have hnb63 := NB592_566.out
                    have hnc63 := NB566_592.out
                    have hnb64 := NB592_580.out
                    have hnc64 := NB580_592.out
                    have hnb65 := NB592_586.out
                    have hnc65 := NB586_592.out
                    have hcz66_0 : w54.cell? ⟨gb592, 0, none⟩ = some (.string (⟨#[]⟩ : ByteArray)) := (blk_cell BK592.out 0).trans rfl
                    have hcz66_1 : w54.cell? ⟨gb592, 1, none⟩ = some (.string (⟨#[]⟩ : ByteArray)) := (blk_cell BK592.out 1).trans rfl
                    have hcz66_2 : w54.cell? ⟨gb592, 2, none⟩ = some (.int .i64 0) := (blk_cell BK592.out 2).trans rfl
                    have hfz66_0 := blk_frozen BK592.out 0
                    have hfz66_1 := blk_frozen BK592.out 1
                    have hfz66_2 := blk_frozen BK592.out 2
                    go_wp2_with (first | (go_at_call 22; (with_reducible refine (impl_IsValidLog.calls kj10 t587 t588 t589 true _ ?side1 A60.out).mono ?_); (case side1 => exact GT.below hG_.out (by repeat (first | (with_reducible first | exact HB.out | apply below_alloc | apply pw_below_drewN | apply below_drew1 | refine below_set ?_ GE566.out | refine below_set ?_ GE580.out | refine below_set ?_ GE586.out | refine below_set ?_ GE592.out) | exact HB.out)) (Nat.le_refl _)); rintro e w67 ⟨rfl, hb⟩; have n0_ := Aside0.mk (blk_below (g := gb566) (o := .cells #[.string t561, .string t562, .int .i64 t563] 31 (0, 0)) (by (with_reducible repeat (first | refine blk_drewN ?_ _ | refine blk_drew ?_ | refine blk_alloc ?_ _)); refine blk_far ?_ NB566_592.out _; (with_reducible repeat (first | refine blk_drewN ?_ _ | refine blk_drew ?_ | refine blk_alloc ?_ _)); refine blk_far ?_ NB566_592.out _; (with_reducible repeat (first | refine blk_drewN ?_ _ | refine blk_drew ?_ | refine blk_alloc ?_ _)); refine blk_far ?_ NB566_592.out _; (with_reducible repeat (first | refine blk_drewN ?_ _ | refine blk_drew ?_ | refine blk_alloc ?_ _)); exact BK566.out) hb); have n1_ := Aside0.mk (blk_below (g := gb580) (o := .cells #[.string t575, .string t576, .int .i64 t577] 31 (0, 0)) (by (with_reducible repeat (first | refine blk_drewN ?_ _ | refine blk_drew ?_ | refine blk_alloc ?_ _)); refine blk_far ?_ NB580_592.out _; (with_reducible repeat (first | refine blk_drewN ?_ _ | refine blk_drew ?_ | refine blk_alloc ?_ _)); refine blk_far ?_ NB580_592.out _; (with_reducible repeat (first | refine blk_drewN ?_ _ | refine blk_drew ?_ | refine blk_alloc ?_ _)); refine blk_far ?_ NB580_592.out _; (with_reducible repeat (first | refine blk_drewN ?_ _ | refine blk_drew ?_ | refine blk_alloc ?_ _)); exact BK580.out) hb); have n2_ := Aside0.mk (blk_below (g := gb586) (o := .cells #[.string t581, .string t582, .int .i64 t583] 31 (0, 0)) (by (with_reducible repeat (first | refine blk_drewN ?_ _ | refine blk_drew ?_ | refine blk_alloc ?_ _)); refine blk_far ?_ NB586_592.out _; (with_reducible repeat (first | refine blk_drewN ?_ _ | refine blk_drew ?_ | refine blk_alloc ?_ _)); refine blk_far ?_ NB586_592.out _; (with_reducible repeat (first | refine blk_drewN ?_ _ | refine blk_drew ?_ | refine blk_alloc ?_ _)); refine blk_far ?_ NB586_592.out _; (with_reducible repeat (first | refine blk_drewN ?_ _ | refine blk_drew ?_ | refine blk_alloc ?_ _)); exact BK586.out) hb); have n3_ := Aside0.mk (blk_below (g := gb592) (o := .cells #[.string t587, .string t588, .int .i64 t589] 31 (0, 0)) (by (with_reducible repeat (first | refine blk_drewN ?_ _ | refine blk_drew ?_ | refine blk_alloc ?_ _)); refine blk_put (cs := #[.string t587, .string t588, .int .i64 0]) ?_ 2 _ rfl; (with_reducible repeat (first | refine blk_drewN ?_ _ | refine blk_drew ?_ | refine blk_alloc ?_ _)); refine blk_put (cs := #[.string t587, .string (⟨#[]⟩ : ByteArray), .int .i64 0]) ?_ 1 _ rfl; (with_reducible repeat (first | refine blk_drewN ?_ _ | refine blk_drew ?_ | refine blk_alloc ?_ _)); refine blk_put (cs := #[.string (⟨#[]⟩ : ByteArray), .string (⟨#[]⟩ : ByteArray), .int .i64 0]) ?_ 0 _ rfl; (with_reducible repeat (first | refine blk_drewN ?_ _ | refine blk_drew ?_ | refine blk_alloc ?_ _)); exact BK592.out) hb); have n4_ := Aside0.mk (below_step (by repeat (first | (with_reducible first | exact HB.out | apply below_alloc | apply pw_below_drewN | apply below_drew1 | refine below_set ?_ GE566.out | refine below_set ?_ GE580.out | refine below_set ?_ GE586.out | refine below_set ?_ GE592.out) | exact HB.out)) hb); clear BK566; clear BK580; clear BK586; clear BK592; clear HB; have BK566 := n0_; have BK580 := n1_; have BK586 := n2_; have BK592 := n3_; have HB := n4_; clear n0_ n1_ n2_ n3_ n4_; (try clear hb); (try clear hb2); (try clear hk); (try clear hi); have hnb68 := NB566_580.out; have hnc68 := NB580_566.out; have hnb69 := NB566_586.out; have hnc69 := NB586_566.out; have hcz70_0 : w67.cell? ⟨gb566, 0, none⟩ = some (.string t561) := (blk_cell BK566.out 0).trans rfl; have hcz70_1 : w67.cell? ⟨gb566, 1, none⟩ = some (.string t562) := (blk_cell BK566.out 1).trans rfl; have hcz70_2 : w67.cell? ⟨gb566, 2, none⟩ = some (.int .i64 t563) := (blk_cell BK566.out 2).trans rfl; have hfz70_0 := blk_frozen BK566.out 0; have hfz70_1 := blk_frozen BK566.out 1; have hfz70_2 := blk_frozen BK566.out 2))
                    go_meet
                    case rel => exact ⟨_, (true), (by first | rfl | (simp; done) | (simp [*]; done)), H', ⟨by have := HJ10.out; first | omega | exact Nat.le_refl _⟩, ⟨by (with_reducible repeat (first | refine blk_drewN ?_ _ | refine blk_drew ?_ | refine blk_alloc ?_ _)); exact BK566.out⟩, ⟨by (with_reducible repeat (first | refine blk_drewN ?_ _ | refine blk_drew ?_ | refine blk_alloc ?_ _)); exact BK580.out⟩, ⟨by (with_reducible repeat (first | refine blk_drewN ?_ _ | refine blk_drew ?_ | refine blk_alloc ?_ _)); exact BK586.out⟩, ⟨by (with_reducible repeat (first | refine blk_drewN ?_ _ | refine blk_drew ?_ | refine blk_alloc ?_ _)); exact BK592.out⟩, ⟨by repeat (first | (with_reducible first | exact HB.out | apply below_alloc | apply pw_below_drewN | apply below_drew1 | refine below_set ?_ GE566.out | refine below_set ?_ GE580.out | refine below_set ?_ GE586.out | refine below_set ?_ GE592.out) | exact HB.out)⟩⟩
                  · rw [if_neg c62] at H
                    have c62b0 : decide (t590 < (t561.size : Int)) = false := decide_eq_false c62
                    clear c62
                    (first | rw [c62b0] | (simp only [i64_w, i32_w]; rw [c62b0]) | skip)
                    (try rw [c62b1])
                    (try rw [c62b2])
                    have H' := Aside0.mk H
                    clear H
                    have hnb71 := NB592_566.out
                    have hnc71 := NB566_592.out
                    have hnb72 := NB592_580.out
                    have hnc72 := NB580_592.out
                    have hnb73 := NB592_586.out
                    have hnc73 := NB586_592.out
                    have hcz74_0 : w54.cell? ⟨gb592, 0, none⟩ = some (.string (⟨#[]⟩ : ByteArray)) := (blk_cell BK592.out 0).trans rfl
                    have hcz74_1 : w54.cell? ⟨gb592, 1, none⟩ = some (.string (⟨#[]⟩ : ByteArray)) := (blk_cell BK592.out 1).trans rfl
                    have hcz74_2 : w54.cell? ⟨gb592, 2, none⟩ = some (.int .i64 0) := (blk_cell BK592.out 2).trans rfl
                    have hfz74_0 := blk_frozen BK592.out 0
                    have hfz74_1 := blk_frozen BK592.out 1
                    have hfz74_2 := blk_frozen BK592.out 2
                    go_wp2_with (first | (go_at_call 22; (with_reducible refine (impl_IsValidLog.calls kj10 t587 t588 t589 true _ ?side1 A60.out).mono ?_); (case side1 => exact GT.below hG_.out (by repeat (first | (with_reducible first | exact HB.out | apply below_alloc | apply pw_below_drewN | apply below_drew1 | refine below_set ?_ GE566.out | refine below_set ?_ GE580.out | refine below_set ?_ GE586.out | refine below_set ?_ GE592.out) | exact HB.out)) (Nat.le_refl _)); rintro e w75 ⟨rfl, hb⟩; have n0_ := Aside0.mk (blk_below (g := gb566) (o := .cells #[.string t561, .string t562, .int .i64 t563] 31 (0, 0)) (by (with_reducible repeat (first | refine blk_drewN ?_ _ | refine blk_drew ?_ | refine blk_alloc ?_ _)); refine blk_far ?_ NB566_592.out _; (with_reducible repeat (first | refine blk_drewN ?_ _ | refine blk_drew ?_ | refine blk_alloc ?_ _)); refine blk_far ?_ NB566_592.out _; (with_reducible repeat (first | refine blk_drewN ?_ _ | refine blk_drew ?_ | refine blk_alloc ?_ _)); refine blk_far ?_ NB566_592.out _; (with_reducible repeat (first | refine blk_drewN ?_ _ | refine blk_drew ?_ | refine blk_alloc ?_ _)); exact BK566.out) hb); have n1_ := Aside0.mk (blk_below (g := gb580) (o := .cells #[.string t575, .string t576, .int .i64 t577] 31 (0, 0)) (by (with_reducible repeat (first | refine blk_drewN ?_ _ | refine blk_drew ?_ | refine blk_alloc ?_ _)); refine blk_far ?_ NB580_592.out _; (with_reducible repeat (first | refine blk_drewN ?_ _ | refine blk_drew ?_ | refine blk_alloc ?_ _)); refine blk_far ?_ NB580_592.out _; (with_reducible repeat (first | refine blk_drewN ?_ _ | refine blk_drew ?_ | refine blk_alloc ?_ _)); refine blk_far ?_ NB580_592.out _; (with_reducible repeat (first | refine blk_drewN ?_ _ | refine blk_drew ?_ | refine blk_alloc ?_ _)); exact BK580.out) hb); have n2_ := Aside0.mk (blk_below (g := gb586) (o := .cells #[.string t581, .string t582, .int .i64 t583] 31 (0, 0)) (by (with_reducible repeat (first | refine blk_drewN ?_ _ | refine blk_drew ?_ | refine blk_alloc ?_ _)); refine blk_far ?_ NB586_592.out _; (with_reducible repeat (first | refine blk_drewN ?_ _ | refine blk_drew ?_ | refine blk_alloc ?_ _)); refine blk_far ?_ NB586_592.out _; (with_reducible repeat (first | refine blk_drewN ?_ _ | refine blk_drew ?_ | refine blk_alloc ?_ _)); refine blk_far ?_ NB586_592.out _; (with_reducible repeat (first | refine blk_drewN ?_ _ | refine blk_drew ?_ | refine blk_alloc ?_ _)); exact BK586.out) hb); have n3_ := Aside0.mk (blk_below (g := gb592) (o := .cells #[.string t587, .string t588, .int .i64 t589] 31 (0, 0)) (by (with_reducible repeat (first | refine blk_drewN ?_ _ | refine blk_drew ?_ | refine blk_alloc ?_ _)); refine blk_put (cs := #[.string t587, .string t588, .int .i64 0]) ?_ 2 _ rfl; (with_reducible repeat (first | refine blk_drewN ?_ _ | refine blk_drew ?_ | refine blk_alloc ?_ _)); refine blk_put (cs := #[.string t587, .string (⟨#[]⟩ : ByteArray), .int .i64 0]) ?_ 1 _ rfl; (with_reducible repeat (first | refine blk_drewN ?_ _ | refine blk_drew ?_ | refine blk_alloc ?_ _)); refine blk_put (cs := #[.string (⟨#[]⟩ : ByteArray), .string (⟨#[]⟩ : ByteArray), .int .i64 0]) ?_ 0 _ rfl; (with_reducible repeat (first | refine blk_drewN ?_ _ | refine blk_drew ?_ | refine blk_alloc ?_ _)); exact BK592.out) hb); have n4_ := Aside0.mk (below_step (by repeat (first | (with_reducible first | exact HB.out | apply below_alloc | apply pw_below_drewN | apply below_drew1 | refine below_set ?_ GE566.out | refine below_set ?_ GE580.out | refine below_set ?_ GE586.out | refine below_set ?_ GE592.out) | exact HB.out)) hb); clear BK566; clear BK580; clear BK586; clear BK592; clear HB; have BK566 := n0_; have BK580 := n1_; have BK586 := n2_; have BK592 := n3_; have HB := n4_; clear n0_ n1_ n2_ n3_ n4_; (try clear hb); (try clear hb2); (try clear hk); (try clear hi); have hnb76 := NB566_580.out; have hnc76 := NB580_566.out; have hnb77 := NB566_586.out; have hnc77 := NB586_566.out; have hcz78_0 : w75.cell? ⟨gb566, 0, none⟩ = some (.string t561) := (blk_cell BK566.out 0).trans rfl; have hcz78_1 : w75.cell? ⟨gb566, 1, none⟩ = some (.string t562) := (blk_cell BK566.out 1).trans rfl; have hcz78_2 : w75.cell? ⟨gb566, 2, none⟩ = some (.int .i64 t563) := (blk_cell BK566.out 2).trans rfl; have hfz78_0 := blk_frozen BK566.out 0; have hfz78_1 := blk_frozen BK566.out 1; have hfz78_2 := blk_frozen BK566.out 2; have hcz79_0 : w75.cell? ⟨gb592, 0, none⟩ = some (.string t587) := (blk_cell BK592.out 0).trans rfl; have hcz79_1 : w75.cell? ⟨gb592, 1, none⟩ = some (.string t588) := (blk_cell BK592.out 1).trans rfl; have hcz79_2 : w75.cell? ⟨gb592, 2, none⟩ = some (.int .i64 t589) := (blk_cell BK592.out 2).trans rfl; have hfz79_0 := blk_frozen BK592.out 0; have hfz79_1 := blk_frozen BK592.out 1; have hfz79_2 := blk_frozen BK592.out 2))
                    go_meet
                    case rel => exact ⟨_, (((t587.size : Int) != t590)), (by first | rfl | (simp; done) | (simp [*]; done)), H', ⟨by have := HJ10.out; first | omega | exact Nat.le_refl _⟩, ⟨by (with_reducible repeat (first | refine blk_drewN ?_ _ | refine blk_drew ?_ | refine blk_alloc ?_ _)); exact BK566.out⟩, ⟨by (with_reducible repeat (first | refine blk_drewN ?_ _ | refine blk_drew ?_ | refine blk_alloc ?_ _)); exact BK580.out⟩, ⟨by (with_reducible repeat (first | refine blk_drewN ?_ _ | refine blk_drew ?_ | refine blk_alloc ?_ _)); exact BK586.out⟩, ⟨by (with_reducible repeat (first | refine blk_drewN ?_ _ | refine blk_drew ?_ | refine blk_alloc ?_ _)); exact BK592.out⟩, ⟨by repeat (first | (with_reducible first | exact HB.out | apply below_alloc | apply pw_below_drewN | apply below_drew1 | refine below_set ?_ GE566.out | refine below_set ?_ GE580.out | refine below_set ?_ GE586.out | refine below_set ?_ GE592.out) | exact HB.out)⟩⟩
                · replace c61 := Bool.eq_false_iff.mpr c61
                  subst c61
                  have H1 : (laws_FnCrashes.j1 kj10 t564 t565 true t561 t562 t563 t587 t588 t589) = some r := by rw [if_neg (show ¬ (false = true) by decide)] at H; exact H
                  clear H
                  have H := H1
                  clear H1
                  have H' := Aside0.mk H
                  clear H
                  have hnb80 := NB592_566.out
                  have hnc80 := NB566_592.out
                  have hnb81 := NB592_580.out
                  have hnc81 := NB580_592.out
                  have hnb82 := NB592_586.out
                  have hnc82 := NB586_592.out
                  have hcz83_0 : w54.cell? ⟨gb592, 0, none⟩ = some (.string (⟨#[]⟩ : ByteArray)) := (blk_cell BK592.out 0).trans rfl
                  have hcz83_1 : w54.cell? ⟨gb592, 1, none⟩ = some (.string (⟨#[]⟩ : ByteArray)) := (blk_cell BK592.out 1).trans rfl
                  have hcz83_2 : w54.cell? ⟨gb592, 2, none⟩ = some (.int .i64 0) := (blk_cell BK592.out 2).trans rfl
                  have hfz83_0 := blk_frozen BK592.out 0
                  have hfz83_1 := blk_frozen BK592.out 1
                  have hfz83_2 := blk_frozen BK592.out 2
                  go_wp2_with (first | (go_at_call 22; (with_reducible refine (impl_IsValidLog.calls kj10 t587 t588 t589 false _ ?side1 A60.out).mono ?_); (case side1 => exact GT.below hG_.out (by repeat (first | (with_reducible first | exact HB.out | apply below_alloc | apply pw_below_drewN | apply below_drew1 | refine below_set ?_ GE566.out | refine below_set ?_ GE580.out | refine below_set ?_ GE586.out | refine below_set ?_ GE592.out) | exact HB.out)) (Nat.le_refl _)); rintro e w84 ⟨rfl, hb⟩; have n0_ := Aside0.mk (blk_below (g := gb566) (o := .cells #[.string t561, .string t562, .int .i64 t563] 31 (0, 0)) (by (with_reducible repeat (first | refine blk_drewN ?_ _ | refine blk_drew ?_ | refine blk_alloc ?_ _)); refine blk_far ?_ NB566_592.out _; (with_reducible repeat (first | refine blk_drewN ?_ _ | refine blk_drew ?_ | refine blk_alloc ?_ _)); refine blk_far ?_ NB566_592.out _; (with_reducible repeat (first | refine blk_drewN ?_ _ | refine blk_drew ?_ | refine blk_alloc ?_ _)); refine blk_far ?_ NB566_592.out _; (with_reducible repeat (first | refine blk_drewN ?_ _ | refine blk_drew ?_ | refine blk_alloc ?_ _)); exact BK566.out) hb); have n1_ := Aside0.mk (blk_below (g := gb580) (o := .cells #[.string t575, .string t576, .int .i64 t577] 31 (0, 0)) (by (with_reducible repeat (first | refine blk_drewN ?_ _ | refine blk_drew ?_ | refine blk_alloc ?_ _)); refine blk_far ?_ NB580_592.out _; (with_reducible repeat (first | refine blk_drewN ?_ _ | refine blk_drew ?_ | refine blk_alloc ?_ _)); refine blk_far ?_ NB580_592.out _; (with_reducible repeat (first | refine blk_drewN ?_ _ | refine blk_drew ?_ | refine blk_alloc ?_ _)); refine blk_far ?_ NB580_592.out _; (with_reducible repeat (first | refine blk_drewN ?_ _ | refine blk_drew ?_ | refine blk_alloc ?_ _)); exact BK580.out) hb); have n2_ := Aside0.mk (blk_below (g := gb586) (o := .cells #[.string t581, .string t582, .int .i64 t583] 31 (0, 0)) (by (with_reducible repeat (first | refine blk_drewN ?_ _ | refine blk_drew ?_ | refine blk_alloc ?_ _)); refine blk_far ?_ NB586_592.out _; (with_reducible repeat (first | refine blk_drewN ?_ _ | refine blk_drew ?_ | refine blk_alloc ?_ _)); refine blk_far ?_ NB586_592.out _; (with_reducible repeat (first | refine blk_drewN ?_ _ | refine blk_drew ?_ | refine blk_alloc ?_ _)); refine blk_far ?_ NB586_592.out _; (with_reducible repeat (first | refine blk_drewN ?_ _ | refine blk_drew ?_ | refine blk_alloc ?_ _)); exact BK586.out) hb); have n3_ := Aside0.mk (blk_below (g := gb592) (o := .cells #[.string t587, .string t588, .int .i64 t589] 31 (0, 0)) (by (with_reducible repeat (first | refine blk_drewN ?_ _ | refine blk_drew ?_ | refine blk_alloc ?_ _)); refine blk_put (cs := #[.string t587, .string t588, .int .i64 0]) ?_ 2 _ rfl; (with_reducible repeat (first | refine blk_drewN ?_ _ | refine blk_drew ?_ | refine blk_alloc ?_ _)); refine blk_put (cs := #[.string t587, .string (⟨#[]⟩ : ByteArray), .int .i64 0]) ?_ 1 _ rfl; (with_reducible repeat (first | refine blk_drewN ?_ _ | refine blk_drew ?_ | refine blk_alloc ?_ _)); refine blk_put (cs := #[.string (⟨#[]⟩ : ByteArray), .string (⟨#[]⟩ : ByteArray), .int .i64 0]) ?_ 0 _ rfl; (with_reducible repeat (first | refine blk_drewN ?_ _ | refine blk_drew ?_ | refine blk_alloc ?_ _)); exact BK592.out) hb); have n4_ := Aside0.mk (below_step (by repeat (first | (with_reducible first | exact HB.out | apply below_alloc | apply pw_below_drewN | apply below_drew1 | refine below_set ?_ GE566.out | refine below_set ?_ GE580.out | refine below_set ?_ GE586.out | refine below_set ?_ GE592.out) | exact HB.out)) hb); clear BK566; clear BK580; clear BK586; clear BK592; clear HB; have BK566 := n0_; have BK580 := n1_; have BK586 := n2_; have BK592 := n3_; have HB := n4_; clear n0_ n1_ n2_ n3_ n4_; (try clear hb); (try clear hb2); (try clear hk); (try clear hi)))
                  go_meet
                  case rel => exact ⟨_, (true), (by first | rfl | (simp; done) | (simp [*]; done)), H', ⟨by have := HJ10.out; first | omega | exact Nat.le_refl _⟩, ⟨by (with_reducible repeat (first | refine blk_drewN ?_ _ | refine blk_drew ?_ | refine blk_alloc ?_ _)); exact BK566.out⟩, ⟨by (with_reducible repeat (first | refine blk_drewN ?_ _ | refine blk_drew ?_ | refine blk_alloc ?_ _)); exact BK580.out⟩, ⟨by (with_reducible repeat (first | refine blk_drewN ?_ _ | refine blk_drew ?_ | refine blk_alloc ?_ _)); exact BK586.out⟩, ⟨by (with_reducible repeat (first | refine blk_drewN ?_ _ | refine blk_drew ?_ | refine blk_alloc ?_ _)); exact BK592.out⟩, ⟨by repeat (first | (with_reducible first | exact HB.out | apply below_alloc | apply pw_below_drewN | apply below_drew1 | refine below_set ?_ GE566.out | refine below_set ?_ GE580.out | refine below_set ?_ GE586.out | refine below_set ?_ GE592.out) | exact HB.out)⟩⟩
              · replace c59 := Bool.eq_false_iff.mpr c59
                subst c59
                have H1 : (laws_FnCrashes.j1 kj10 t564 t565 true t561 t562 t563 t587 t588 t589) = some r := by rw [if_neg (show ¬ (false = true) by decide)] at H; exact H
                clear H
                have H := H1
                clear H1
                have H' := Aside0.mk H
                clear H
                go_wp2
                go_meet
                case rel => exact ⟨_, (true), (by first | rfl | (simp; done) | (simp [*]; done)), H', ⟨by have := HJ10.out; first | omega | exact Nat.le_refl _⟩, ⟨by (with_reducible repeat (first | refine blk_drewN ?_ _ | refine blk_drew ?_ | refine blk_alloc ?_ _)); refine blk_far ?_ NB566_592.out _; (with_reducible repeat (first | refine blk_drewN ?_ _ | refine blk_drew ?_ | refine blk_alloc ?_ _)); refine blk_far ?_ NB566_592.out _; (with_reducible repeat (first | refine blk_drewN ?_ _ | refine blk_drew ?_ | refine blk_alloc ?_ _)); refine blk_far ?_ NB566_592.out _; (with_reducible repeat (first | refine blk_drewN ?_ _ | refine blk_drew ?_ | refine blk_alloc ?_ _)); exact BK566.out⟩, ⟨by (with_reducible repeat (first | refine blk_drewN ?_ _ | refine blk_drew ?_ | refine blk_alloc ?_ _)); refine blk_far ?_ NB580_592.out _; (with_reducible repeat (first | refine blk_drewN ?_ _ | refine blk_drew ?_ | refine blk_alloc ?_ _)); refine blk_far ?_ NB580_592.out _; (with_reducible repeat (first | refine blk_drewN ?_ _ | refine blk_drew ?_ | refine blk_alloc ?_ _)); refine blk_far ?_ NB580_592.out _; (with_reducible repeat (first | refine blk_drewN ?_ _ | refine blk_drew ?_ | refine blk_alloc ?_ _)); exact BK580.out⟩, ⟨by (with_reducible repeat (first | refine blk_drewN ?_ _ | refine blk_drew ?_ | refine blk_alloc ?_ _)); refine blk_far ?_ NB586_592.out _; (with_reducible repeat (first | refine blk_drewN ?_ _ | refine blk_drew ?_ | refine blk_alloc ?_ _)); refine blk_far ?_ NB586_592.out _; (with_reducible repeat (first | refine blk_drewN ?_ _ | refine blk_drew ?_ | refine blk_alloc ?_ _)); refine blk_far ?_ NB586_592.out _; (with_reducible repeat (first | refine blk_drewN ?_ _ | refine blk_drew ?_ | refine blk_alloc ?_ _)); exact BK586.out⟩, ⟨by (with_reducible repeat (first | refine blk_drewN ?_ _ | refine blk_drew ?_ | refine blk_alloc ?_ _)); refine blk_put (cs := #[.string t587, .string t588, .int .i64 0]) ?_ 2 _ rfl; (with_reducible repeat (first | refine blk_drewN ?_ _ | refine blk_drew ?_ | refine blk_alloc ?_ _)); refine blk_put (cs := #[.string t587, .string (⟨#[]⟩ : ByteArray), .int .i64 0]) ?_ 1 _ rfl; (with_reducible repeat (first | refine blk_drewN ?_ _ | refine blk_drew ?_ | refine blk_alloc ?_ _)); refine blk_put (cs := #[.string (⟨#[]⟩ : ByteArray), .string (⟨#[]⟩ : ByteArray), .int .i64 0]) ?_ 0 _ rfl; (with_reducible repeat (first | refine blk_drewN ?_ _ | refine blk_drew ?_ | refine blk_alloc ?_ _)); exact BK592.out⟩, ⟨by repeat (first | (with_reducible first | exact HB.out | apply below_alloc | apply pw_below_drewN | apply below_drew1 | refine below_set ?_ GE566.out | refine below_set ?_ GE580.out | refine below_set ?_ GE586.out | refine below_set ?_ GE592.out) | exact HB.out)⟩⟩
            case rest =>
              clear HC52
              try clear c1
              try clear c2
              try clear p2
              try clear c3
              try clear c4
              try clear c5
              try clear c6
              try clear c7
              try clear c8
              try clear c11
              try clear c16
              try clear c17
              try clear c23
              try clear c24
              try clear c27
              try clear c28
              try clear c30
              try clear c30b0
              try clear c30b1
              try clear c30b2
              try clear c31
              try clear c31b0
              try clear c31b1
              try clear c31b2
              try clear c32
              try clear c32b0
              try clear c33
              try clear c34
              try clear c36
              try clear c37
              try clear c38
              try clear c38b0
              try clear c38b1
              try clear c39
              try clear c40
              try clear c42
              try clear c43
              try clear c44
              try clear c45
              try clear c47
              try clear c49
              try clear c50
              try clear c55
              try clear c56
              try clear c57
              try clear c59
              try clear c61
              try clear c62
              try clear c62b0
              try clear c62b1
              try clear c62b2
              try clear c63
              try clear c64
              try clear c65
              try clear c68
              try clear c69
              try clear c71
              try clear c72
              try clear c73
              try clear c76
              try clear c77
              try clear c80
              try clear c81
              try clear c82
              try clear hcz14_0
              try clear hcz14_1
              try clear hcz14_2
              try clear hcz16_0
              try clear hcz16_1
              try clear hcz16_2
              try clear hcz24_0
              try clear hcz24_1
              try clear hcz24_2
              try clear hcz29_0
              try clear hcz29_1
              try clear hcz29_2
              try clear hcz35_0
              try clear hcz35_1
              try clear hcz35_2
              try clear hcz37_0
              try clear hcz37_1
              try clear hcz37_2
              try clear hcz41_0
              try clear hcz41_1
              try clear hcz41_2
              try clear hcz43_0
              try clear hcz43_1
              try clear hcz43_2
              try clear hcz46_0
              try clear hcz46_1
              try clear hcz46_2
              try clear hcz48_0
              try clear hcz48_1
              try clear hcz48_2
              try clear hcz58_0
              try clear hcz58_1
              try clear hcz58_2
              try clear hcz66_0
              try clear hcz66_1
              try clear hcz66_2
              try clear hcz70_0
              try clear hcz70_1
              try clear hcz70_2
              try clear hcz74_0
              try clear hcz74_1
              try clear hcz74_2
              try clear hcz78_0
              try clear hcz78_1
              try clear hcz78_2
              try clear hcz79_0
              try clear hcz79_1
              try clear hcz79_2
              try clear hcz83_0
              try clear hcz83_1
              try clear hcz83_2
              try clear hfz14_0
              try clear hfz14_1
              try clear hfz14_2
              try clear hfz16_0
              try clear hfz16_1
              try clear hfz16_2
              try clear hfz24_0
              try clear hfz24_1
              try clear hfz24_2
              try clear hfz29_0
              try clear hfz29_1
              try clear hfz29_2
              try clear hfz35_0
              try clear hfz35_1
              try clear hfz35_2
              try clear hfz37_0
              try clear hfz37_1
              try clear hfz37_2
              try clear hfz41_0
              try clear hfz41_1
              try clear hfz41_2
              try clear hfz43_0
              try clear hfz43_1
              try clear hfz43_2
              try clear hfz46_0
              try clear hfz46_1
              try clear hfz46_2
              try clear hfz48_0
              try clear hfz48_1
              try clear hfz48_2
              try clear hfz58_0
              try clear hfz58_1
              try clear hfz58_2
              try clear hfz66_0
              try clear hfz66_1
              try clear hfz66_2
              try clear hfz70_0
              try clear hfz70_1
              try clear hfz70_2
              try clear hfz74_0
              try clear hfz74_1
              try clear hfz74_2
              try clear hfz78_0
              try clear hfz78_1
              try clear hfz78_2
              try clear hfz79_0
              try clear hfz79_1
              try clear hfz79_2
              try clear hfz83_0
              try clear hfz83_1
              try clear hfz83_2
              try clear p2
              obtain ⟨kq, x112_51, rfl, HA, HJ51, BK566, BK580, BK586, BK592, HB⟩ := hcut
              cases kq with
              | zero => exact absurd HA.out (by simp [laws_FnCrashes.j1])
              | succ kj51 =>
                have H := HA.out
                clear HA
                simp only [laws_FnCrashes.j1] at H
                by_cases c85 : x112_51 = true
                · subst c85
                  have H1 : (some false) = some r := by rw [if_pos rfl] at H; exact H
                  clear H
                  have H := H1
                  clear H1
                  obtain rfl := Option.some.inj H
                  go_wp2
                  go_ret
                  exact ⟨by first | rfl | (simp [errW_none, errW_some] <;> rfl) | (simp [*, errW_none, errW_some] <;> rfl), by repeat (first | (with_reducible first | exact HB.out | apply below_alloc | apply pw_below_drewN | apply below_drew1 | refine below_set ?_ GE566.out | refine below_set ?_ GE580.out | refine below_set ?_ GE586.out | refine below_set ?_ GE592.out) | exact HB.out)⟩
                · replace c85 := Bool.eq_false_iff.mpr c85
                  subst c85
                  have H1 : ((impl_LogRecords.f kj51 t561 t562 t563).bind fun bt594 => ((impl_LogRecords.f kj51 t587 t588 t589).bind fun bt598 => (if (bt598.1.length : Int) ≤ (bt594.1.length : Int) then (if 0 ≤ (bt598.1.length : Int) then ((laws_vRecords.f kj51 bt598.1 (bt594.1.take ((bt598.1.length : Int) : Int).toNat)).bind fun t606 => (if t606 = true then (if t565 = true then (some true) else (if t564 < (t562.size : Int) then (some true) else (some ((bt598.1.length : Int) == (bt594.1.length : Int))))) else (some false))) else (none)) else (some false)))) = some r := by rw [if_neg (show ¬ (false = true) by decide)] at H; exact H
                  clear H
                  have H := H1
                  clear H1
                  replace H := Option.bind_eq_some_iff.mp H
                  obtain ⟨⟨t594, t597⟩, A860, H⟩ := H
                  replace H : ((impl_LogRecords.f kj51 t587 t588 t589).bind fun bt598 => (if (bt598.1.length : Int) ≤ (t594.length : Int) then (if 0 ≤ (bt598.1.length : Int) then ((laws_vRecords.f kj51 bt598.1 (t594.take ((bt598.1.length : Int) : Int).toNat)).bind fun t606 => (if t606 = true then (if t565 = true then (some true) else (if t564 < (t562.size : Int) then (some true) else (some ((bt598.1.length : Int) == (t594.length : Int))))) else (some false))) else (none)) else (some false))) = some r := H
                  have A86 := Aside0.mk A860
                  clear A860
                  replace H := Option.bind_eq_some_iff.mp H
                  obtain ⟨⟨t598, t601⟩, A870, H⟩ := H
                  replace H : (if (t598.length : Int) ≤ (t594.length : Int) then (if 0 ≤ (t598.length : Int) then ((laws_vRecords.f kj51 t598 (t594.take ((t598.length : Int) : Int).toNat)).bind fun t606 => (if t606 = true then (if t565 = true then (some true) else (if t564 < (t562.size : Int) then (some true) else (some ((t598.length : Int) == (t594.length : Int))))) else (some false))) else (none)) else (some false)) = some r := H
                  have A87 := Aside0.mk A870
                  clear A870
                  by_cases c88 : (t598.length : Int) ≤ (t594.length : Int)
                  · rw [if_pos c88] at H
                    have c88b0 : decide ((t598.length : Int) ≤ (t594.length : Int)) = true := decide_eq_true c88
                    have c88b1 : decide (t598.length ≤ t594.length) = true := decide_eq_true (Int.ofNat_le.mp c88)
                    clear c88
                    by_cases c89 : 0 ≤ (t598.length : Int)
                    · rw [if_pos c89] at H
                      have c89b0 := eq_true c89
                      have c89b1 : decide (0 ≤ (t598.length : Int)) = true := decide_eq_true c89
                      clear c89
                      have c90b0 := eq_true (of_decide_eq_true (by first | (with_reducible assumption) | assumption) : (t598.length : Int) ≤ (t594.length : Int))
                      obtain ⟨y602, hy602⟩ : ∃ y_ : List (S27), y_ = (t594.take ((t598.length : Int) : Int).toNat) := ⟨_, rfl⟩
                      replace H : ((laws_vRecords.f kj51 t598 y602).bind fun t606 => (if t606 = true then (if t565 = true then (some true) else (if t564 < (t562.size : Int) then (some true) else (some ((t598.length : Int) == (t594.length : Int))))) else (some false))) = some r := by first | (rw [hy602]; with_reducible exact H) | (have H2_ := (Option.bind_some _ _).symm.trans H; rw [hy602]; with_reducible exact H2_) | (have H2_ := (Option.bind_some _ _).symm.trans H; with_reducible exact H2_) | with_reducible exact H | (rw [hy602]; exact H) | exact H
                      have Ny602 := Aside0.mk hy602
                      clear hy602
                      replace H := Option.bind_eq_some_iff.mp H
                      obtain ⟨t606, A910, H⟩ := H
                      replace H : (if t606 = true then (if t565 = true then (some true) else (if t564 < (t562.size : Int) then (some true) else (some ((t598.length : Int) == (t594.length : Int))))) else (some false)) = some r := H
                      have A91 := Aside0.mk A910
                      clear A910
                      by_cases c92 : t606 = true
                      · subst c92
                        have H1 : (if t565 = true then (some true) else (if t564 < (t562.size : Int) then (some true) else (some ((t598.length : Int) == (t594.length : Int))))) = some r := by rw [if_pos rfl] at H; exact H
                        clear H
                        have H := H1
                        clear H1
                        by_cases c93 : t565 = true
                        · subst c93
                          have H1 : (some true) = some r := by rw [if_pos rfl] at H; exact H
                          clear H
                          have H := H1
                          clear H1
                          obtain rfl := Option.some.inj H
                          have hnb94 := NB566_580.out
                          have hnc94 := NB580_566.out
                          have hnb95 := NB566_586.out
                          have hnc95 := NB586_566.out
                          have hnb96 := NB566_592.out
                          have hnc96 := NB592_566.out
                          have hcz97_0 : wc.cell? ⟨gb566, 0, none⟩ = some (.string t561) := (blk_cell BK566.out 0).trans rfl
                          have hcz97_1 : wc.cell? ⟨gb566, 1, none⟩ = some (.string t562) := (blk_cell BK566.out 1).trans rfl
                          have hcz97_2 : wc.cell? ⟨gb566, 2, none⟩ = some (.int .i64 t563) := (blk_cell BK566.out 2).trans rfl
                          have hfz97_0 := blk_frozen BK566.out 0
                          have hfz97_1 := blk_frozen BK566.out 1
                          have hfz97_2 := blk_frozen BK566.out 2
                          go_wp2_with (first | ((with_reducible refine gate_callee (f := 30) rfl ?_); refine goesL_ (some 115) rfl rfl Tryd.func30 (by kernel_rfl) rfl #[.agg #[.string t561, .string t562, .int .i64 t563]] rfl (by (try simp only [List.map_toArray, List.map_cons, List.map_nil]); first | done | rfl | (simp only [List.length_drop, List.length_take]; rfl)) ?_; (with_reducible refine (impl_LogRecords.calls kj51 t561 t562 t563 t594 t597 _ ?side1 A86.out).mono ?_); (case side1 => exact GT.below hG_.out (by repeat (first | (with_reducible first | exact HB.out | apply below_alloc | apply pw_below_drewN | apply below_drew1 | refine below_set ?_ GE566.out | refine below_set ?_ GE580.out | refine below_set ?_ GE586.out | refine below_set ?_ GE592.out) | exact HB.out)) (Nat.le_refl _)); rintro e w98 ⟨v595, rfl, ho0, hb⟩; refine ⟨_, rfl, ?_⟩; have n0_ := Aside0.mk (Kd.R_lower ho0 (below_size (by repeat (first | (with_reducible first | exact HB.out | apply below_alloc | apply pw_below_drewN | apply below_drew1 | refine below_set ?_ GE566.out | refine below_set ?_ GE580.out | refine below_set ?_ GE586.out | refine below_set ?_ GE592.out) | exact HB.out)))); have n1_ := Aside0.mk (blk_below (g := gb566) (o := .cells #[.string t561, .string t562, .int .i64 t563] 31 (0, 0)) (by (with_reducible repeat (first | refine blk_drewN ?_ _ | refine blk_drew ?_ | refine blk_alloc ?_ _)); exact BK566.out) hb); have n2_ := Aside0.mk (blk_below (g := gb580) (o := .cells #[.string t575, .string t576, .int .i64 t577] 31 (0, 0)) (by (with_reducible repeat (first | refine blk_drewN ?_ _ | refine blk_drew ?_ | refine blk_alloc ?_ _)); exact BK580.out) hb); have n3_ := Aside0.mk (blk_below (g := gb586) (o := .cells #[.string t581, .string t582, .int .i64 t583] 31 (0, 0)) (by (with_reducible repeat (first | refine blk_drewN ?_ _ | refine blk_drew ?_ | refine blk_alloc ?_ _)); exact BK586.out) hb); have n4_ := Aside0.mk (blk_below (g := gb592) (o := .cells #[.string t587, .string t588, .int .i64 t589] 31 (0, 0)) (by (with_reducible repeat (first | refine blk_drewN ?_ _ | refine blk_drew ?_ | refine blk_alloc ?_ _)); exact BK592.out) hb); have n5_ := Aside0.mk (below_step (by repeat (first | (with_reducible first | exact HB.out | apply below_alloc | apply pw_below_drewN | apply below_drew1 | refine below_set ?_ GE566.out | refine below_set ?_ GE580.out | refine below_set ?_ GE586.out | refine below_set ?_ GE592.out) | exact HB.out)) hb); clear BK566; clear BK580; clear BK586; clear BK592; clear HB; have HO596 := n0_; have BK566 := n1_; have BK580 := n2_; have BK586 := n3_; have BK592 := n4_; have HB := n5_; clear n0_ n1_ n2_ n3_ n4_ n5_; (try clear hb); (try clear hb2); (try clear hk); (try clear hi); (try clear ho0); have hnb99 := NB592_580.out; have hnc99 := NB580_592.out; have hnb100 := NB592_586.out; have hnc100 := NB586_592.out; have hcz101_0 : w98.cell? ⟨gb592, 0, none⟩ = some (.string t587) := (blk_cell BK592.out 0).trans rfl; have hcz101_1 : w98.cell? ⟨gb592, 1, none⟩ = some (.string t588) := (blk_cell BK592.out 1).trans rfl; have hcz101_2 : w98.cell? ⟨gb592, 2, none⟩ = some (.int .i64 t589) := (blk_cell BK592.out 2).trans rfl; have hfz101_0 := blk_frozen BK592.out 0; have hfz101_1 := blk_frozen BK592.out 1; have hfz101_2 := blk_frozen BK592.out 2) | ((with_reducible refine gate_callee (f := 30) rfl ?_); refine goesL_ (some 120) rfl rfl Tryd.func30 (by kernel_rfl) rfl #[.agg #[.string t587, .string t588, .int .i64 t589]] rfl (by (try simp only [List.map_toArray, List.map_cons, List.map_nil]); first | done | rfl | (simp only [List.length_drop, List.length_take]; rfl)) ?_; (with_reducible refine (impl_LogRecords.calls kj51 t587 t588 t589 t598 t601 _ ?side1 A87.out).mono ?_); (case side1 => exact GT.below hG_.out (by repeat (first | (with_reducible first | exact HB.out | apply below_alloc | apply pw_below_drewN | apply below_drew1 | refine below_set ?_ GE566.out | refine below_set ?_ GE580.out | refine below_set ?_ GE586.out | refine below_set ?_ GE592.out) | exact HB.out)) (Nat.le_refl _)); rintro e w102 ⟨v599, rfl, ho0, hb⟩; refine ⟨_, rfl, ?_⟩; have n0_ := Aside0.mk (Kd.R_elder' (by (with_reducible repeat (first | apply Kd.R_alloc | apply Kd.R_drewN | apply Kd.R_drew)); exact HO596.out) (Kd.R_base ho0) hb); have n1_ := Aside0.mk (Kd.R_lower (Kd.R_new' ho0 (Kd.R_lt (by (with_reducible repeat (first | apply Kd.R_alloc | apply Kd.R_drewN | apply Kd.R_drew)); exact HO596.out))) (below_size (by repeat (first | (with_reducible first | exact HB.out | apply below_alloc | apply pw_below_drewN | apply below_drew1 | refine below_set ?_ GE566.out | refine below_set ?_ GE580.out | refine below_set ?_ GE586.out | refine below_set ?_ GE592.out) | exact HB.out)))); have n2_ := Aside0.mk (blk_below (g := gb566) (o := .cells #[.string t561, .string t562, .int .i64 t563] 31 (0, 0)) (by (with_reducible repeat (first | refine blk_drewN ?_ _ | refine blk_drew ?_ | refine blk_alloc ?_ _)); exact BK566.out) hb); have n3_ := Aside0.mk (blk_below (g := gb580) (o := .cells #[.string t575, .string t576, .int .i64 t577] 31 (0, 0)) (by (with_reducible repeat (first | refine blk_drewN ?_ _ | refine blk_drew ?_ | refine blk_alloc ?_ _)); exact BK580.out) hb); have n4_ := Aside0.mk (blk_below (g := gb586) (o := .cells #[.string t581, .string t582, .int .i64 t583] 31 (0, 0)) (by (with_reducible repeat (first | refine blk_drewN ?_ _ | refine blk_drew ?_ | refine blk_alloc ?_ _)); exact BK586.out) hb); have n5_ := Aside0.mk (blk_below (g := gb592) (o := .cells #[.string t587, .string t588, .int .i64 t589] 31 (0, 0)) (by (with_reducible repeat (first | refine blk_drewN ?_ _ | refine blk_drew ?_ | refine blk_alloc ?_ _)); exact BK592.out) hb); have n6_ := Aside0.mk (below_step (by repeat (first | (with_reducible first | exact HB.out | apply below_alloc | apply pw_below_drewN | apply below_drew1 | refine below_set ?_ GE566.out | refine below_set ?_ GE580.out | refine below_set ?_ GE586.out | refine below_set ?_ GE592.out) | exact HB.out)) hb); clear HO596; clear BK566; clear BK580; clear BK586; clear BK592; clear HB; have HO596 := n0_; have HO600 := n1_; have BK566 := n2_; have BK580 := n3_; have BK586 := n4_; have BK592 := n5_; have HB := n6_; clear n0_ n1_ n2_ n3_ n4_ n5_ n6_; (try clear hb); (try clear hb2); (try clear hk); (try clear hi); (try clear ho0); obtain ⟨Ao103, co103, eo103⟩ := Kd.R_slice HO600.out; subst eo103; obtain ⟨Ao104, co104, eo104⟩ := Kd.R_slice HO596.out; subst eo104; have q105 : ((t598.length : Int) : Int) ≤ ((t594.length : Int) : Int) := of_decide_eq_true (by first | (with_reducible assumption) | assumption); obtain ⟨i0105, hi0105, _, hsz105, _⟩ := info_parts info27; have hroom105 : t594.length ≤ co104 := (Kd.R_reads' HO596.out).2.1; have hC105 : Kd.C k27 _ Ao104 t594.length t594 := (Kd.R_reads' HO596.out).2.2; have hcut105 := cut_to (P := Tryd.prog) 48 27 .i64 Tryd.underlying48 hi0105 Ao104 t594.length co104 (t598.length : Int) (of_decide_eq_true (by first | (with_reducible assumption) | assumption)) q105 hroom105; have hr105 := Kd.C_take (m := ((t598.length : Int) : Int).toNat) hC105 (by omega); have hy105 : y602.length = ((t598.length : Int) : Int).toNat := (by rw [Ny602.out, List.length_take]; omega); rw [← Ny602.out] at hr105; rw [← hy105] at hcut105; have HR605 := Aside0.mk hr105; have HC605 := Aside0.mk (show y602.length ≤ co104 from by omega); clear hr105 hC105 hroom105 hi0105 hsz105; have KY105 := Aside0.mk hy105; clear hy105; have KL105 := Aside0.mk (show ((t598.length : Int) : Int).toNat ≤ t594.length from by omega); replace q105 := eq_true q105) | (go_at_call 42; (with_reducible refine (laws_vRecords.calls kj51 _ _ t598 _ _ y602 true _ ?side1 ?side2 ?side3 ?side4 A91.out).mono ?_); (case side1 => repeat (first | exact (Kd.R_reads' HO600.out).2.2 | (with_reducible refine Kd.C_alloc ?_ _) | (with_reducible refine Kd.C_drewN ?_ _) | (with_reducible refine Kd.C_drew ?_))); (case side2 => exact (Kd.R_reads' HO600.out).2.1); (case side3 => repeat (first | exact (by repeat (first | (with_reducible exact HR605.out) | (with_reducible refine Kd.C_alloc ?_ _) | (with_reducible refine Kd.C_drewN ?_ _) | (with_reducible refine Kd.C_drew ?_) | exact HR605.out)) | (with_reducible refine Kd.C_alloc ?_ _) | (with_reducible refine Kd.C_drewN ?_ _) | (with_reducible refine Kd.C_drew ?_))); (case side4 => exact HC605.out); rintro e w' ⟨rfl, ⟨nd, rfl⟩⟩))
                          go_ret
                          exact ⟨by first | rfl | (simp [errW_none, errW_some] <;> rfl) | (simp [*, errW_none, errW_some] <;> rfl), by repeat (first | (with_reducible first | exact HB.out | apply below_alloc | apply pw_below_drewN | apply below_drew1 | refine below_set ?_ GE566.out | refine below_set ?_ GE580.out | refine below_set ?_ GE586.out | refine below_set ?_ GE592.out) | exact HB.out)⟩
                        · replace c93 := Bool.eq_false_iff.mpr c93
                          subst c93
                          have H1 : (if t564 < (t562.size : Int) then (some true) else (some ((t598.length : Int) == (t594.length : Int)))) = some r := by rw [if_neg (show ¬ (false = true) by decide)] at H; exact H
                          clear H
                          have H := H1
                          clear H1
                          by_cases c106 : t564 < (t562.size : Int)
                          · rw [if_pos c106] at H
                            have c106b0 : decide (t564 < (t562.size : Int)) = true := decide_eq_true c106
                            clear c106
                            obtain rfl := Option.some.inj H
                            have hnb107 := NB566_580.out
                            have hnc107 := NB580_566.out
                            have hnb108 := NB566_586.out
                            have hnc108 := NB586_566.out
                            have hnb109 := NB566_592.out
                            have hnc109 := NB592_566.out
                            have hcz110_0 : wc.cell? ⟨gb566, 0, none⟩ = some (.string t561) := (blk_cell BK566.out 0).trans rfl
                            have hcz110_1 : wc.cell? ⟨gb566, 1, none⟩ = some (.string t562) := (blk_cell BK566.out 1).trans rfl
                            have hcz110_2 : wc.cell? ⟨gb566, 2, none⟩ = some (.int .i64 t563) := (blk_cell BK566.out 2).trans rfl
                            have hfz110_0 := blk_frozen BK566.out 0
                            have hfz110_1 := blk_frozen BK566.out 1
                            have hfz110_2 := blk_frozen BK566.out 2
                            go_wp2_with (first | ((with_reducible refine gate_callee (f := 30) rfl ?_); refine goesL_ (some 115) rfl rfl Tryd.func30 (by kernel_rfl) rfl #[.agg #[.string t561, .string t562, .int .i64 t563]] rfl (by (try simp only [List.map_toArray, List.map_cons, List.map_nil]); first | done | rfl | (simp only [List.length_drop, List.length_take]; rfl)) ?_; (with_reducible refine (impl_LogRecords.calls kj51 t561 t562 t563 t594 t597 _ ?side1 A86.out).mono ?_); (case side1 => exact GT.below hG_.out (by repeat (first | (with_reducible first | exact HB.out | apply below_alloc | apply pw_below_drewN | apply below_drew1 | refine below_set ?_ GE566.out | refine below_set ?_ GE580.out | refine below_set ?_ GE586.out | refine below_set ?_ GE592.out) | exact HB.out)) (Nat.le_refl _)); rintro e w111 ⟨v595, rfl, ho0, hb⟩; refine ⟨_, rfl, ?_⟩; have n0_ := Aside0.mk (Kd.R_lower ho0 (below_size (by repeat (first | (with_reducible first | exact HB.out | apply below_alloc | apply pw_below_drewN | apply below_drew1 | refine below_set ?_ GE566.out | refine below_set ?_ GE580.out | refine below_set ?_ GE586.out | refine below_set ?_ GE592.out) | exact HB.out)))); have n1_ := Aside0.mk (blk_below (g := gb566) (o := .cells #[.string t561, .string t562, .int .i64 t563] 31 (0, 0)) (by (with_reducible repeat (first | refine blk_drewN ?_ _ | refine blk_drew ?_ | refine blk_alloc ?_ _)); exact BK566.out) hb); have n2_ := Aside0.mk (blk_below (g := gb580) (o := .cells #[.string t575, .string t576, .int .i64 t577] 31 (0, 0)) (by (with_reducible repeat (first | refine blk_drewN ?_ _ | refine blk_drew ?_ | refine blk_alloc ?_ _)); exact BK580.out) hb); have n3_ := Aside0.mk (blk_below (g := gb586) (o := .cells #[.string t581, .string t582, .int .i64 t583] 31 (0, 0)) (by (with_reducible repeat (first | refine blk_drewN ?_ _ | refine blk_drew ?_ | refine blk_alloc ?_ _)); exact BK586.out) hb); have n4_ := Aside0.mk (blk_below (g := gb592) (o := .cells #[.string t587, .string t588, .int .i64 t589] 31 (0, 0)) (by (with_reducible repeat (first | refine blk_drewN ?_ _ | refine blk_drew ?_ | refine blk_alloc ?_ _)); exact BK592.out) hb); have n5_ := Aside0.mk (below_step (by repeat (first | (with_reducible first | exact HB.out | apply below_alloc | apply pw_below_drewN | apply below_drew1 | refine below_set ?_ GE566.out | refine below_set ?_ GE580.out | refine below_set ?_ GE586.out | refine below_set ?_ GE592.out) | exact HB.out)) hb); clear BK566; clear BK580; clear BK586; clear BK592; clear HB; have HO596 := n0_; have BK566 := n1_; have BK580 := n2_; have BK586 := n3_; have BK592 := n4_; have HB := n5_; clear n0_ n1_ n2_ n3_ n4_ n5_; (try clear hb); (try clear hb2); (try clear hk); (try clear hi); (try clear ho0); have hnb112 := NB592_580.out; have hnc112 := NB580_592.out; have hnb113 := NB592_586.out; have hnc113 := NB586_592.out; have hcz114_0 : w111.cell? ⟨gb592, 0, none⟩ = some (.string t587) := (blk_cell BK592.out 0).trans rfl; have hcz114_1 : w111.cell? ⟨gb592, 1, none⟩ = some (.string t588) := (blk_cell BK592.out 1).trans rfl; have hcz114_2 : w111.cell? ⟨gb592, 2, none⟩ = some (.int .i64 t589) := (blk_cell BK592.out 2).trans rfl; have hfz114_0 := blk_frozen BK592.out 0; have hfz114_1 := blk_frozen BK592.out 1; have hfz114_2 := blk_frozen BK592.out 2) | ((with_reducible refine gate_callee (f := 30) rfl ?_); refine goesL_ (some 120) rfl rfl Tryd.func30 (by kernel_rfl) rfl #[.agg #[.string t587, .string t588, .int .i64 t589]] rfl (by (try simp only [List.map_toArray, List.map_cons, List.map_nil]); first | done | rfl | (simp only [List.length_drop, List.length_take]; rfl)) ?_; (with_reducible refine (impl_LogRecords.calls kj51 t587 t588 t589 t598 t601 _ ?side1 A87.out).mono ?_); (case side1 => exact GT.below hG_.out (by repeat (first | (with_reducible first | exact HB.out | apply below_alloc | apply pw_below_drewN | apply below_drew1 | refine below_set ?_ GE566.out | refine below_set ?_ GE580.out | refine below_set ?_ GE586.out | refine below_set ?_ GE592.out) | exact HB.out)) (Nat.le_refl _)); rintro e w115 ⟨v599, rfl, ho0, hb⟩; refine ⟨_, rfl, ?_⟩; have n0_ := Aside0.mk (Kd.R_elder' (by (with_reducible repeat (first | apply Kd.R_alloc | apply Kd.R_drewN | apply Kd.R_drew)); exact HO596.out) (Kd.R_base ho0) hb); have n1_ := Aside0.mk (Kd.R_lower (Kd.R_new' ho0 (Kd.R_lt (by (with_reducible repeat (first | apply Kd.R_alloc | apply Kd.R_drewN | apply Kd.R_drew)); exact HO596.out))) (below_size (by repeat (first | (with_reducible first | exact HB.out | apply below_alloc | apply pw_below_drewN | apply below_drew1 | refine below_set ?_ GE566.out | refine below_set ?_ GE580.out | refine below_set ?_ GE586.out | refine below_set ?_ GE592.out) | exact HB.out)))); have n2_ := Aside0.mk (blk_below (g := gb566) (o := .cells #[.string t561, .string t562, .int .i64 t563] 31 (0, 0)) (by (with_reducible repeat (first | refine blk_drewN ?_ _ | refine blk_drew ?_ | refine blk_alloc ?_ _)); exact BK566.out) hb); have n3_ := Aside0.mk (blk_below (g := gb580) (o := .cells #[.string t575, .string t576, .int .i64 t577] 31 (0, 0)) (by (with_reducible repeat (first | refine blk_drewN ?_ _ | refine blk_drew ?_ | refine blk_alloc ?_ _)); exact BK580.out) hb); have n4_ := Aside0.mk (blk_below (g := gb586) (o := .cells #[.string t581, .string t582, .int .i64 t583] 31 (0, 0)) (by (with_reducible repeat (first | refine blk_drewN ?_ _ | refine blk_drew ?_ | refine blk_alloc ?_ _)); exact BK586.out) hb); have n5_ := Aside0.mk (blk_below (g := gb592) (o := .cells #[.string t587, .string t588, .int .i64 t589] 31 (0, 0)) (by (with_reducible repeat (first | refine blk_drewN ?_ _ | refine blk_drew ?_ | refine blk_alloc ?_ _)); exact BK592.out) hb); have n6_ := Aside0.mk (below_step (by repeat (first | (with_reducible first | exact HB.out | apply below_alloc | apply pw_below_drewN | apply below_drew1 | refine below_set ?_ GE566.out | refine below_set ?_ GE580.out | refine below_set ?_ GE586.out | refine below_set ?_ GE592.out) | exact HB.out)) hb); clear HO596; clear BK566; clear BK580; clear BK586; clear BK592; clear HB; have HO596 := n0_; have HO600 := n1_; have BK566 := n2_; have BK580 := n3_; have BK586 := n4_; have BK592 := n5_; have HB := n6_; clear n0_ n1_ n2_ n3_ n4_ n5_ n6_; (try clear hb); (try clear hb2); (try clear hk); (try clear hi); (try clear ho0); obtain ⟨Ao116, co116, eo116⟩ := Kd.R_slice HO600.out; subst eo116; obtain ⟨Ao117, co117, eo117⟩ := Kd.R_slice HO596.out; subst eo117; have q118 : ((t598.length : Int) : Int) ≤ ((t594.length : Int) : Int) := of_decide_eq_true (by first | (with_reducible assumption) | assumption); obtain ⟨i0118, hi0118, _, hsz118, _⟩ := info_parts info27; have hroom118 : t594.length ≤ co117 := (Kd.R_reads' HO596.out).2.1; have hC118 : Kd.C k27 _ Ao117 t594.length t594 := (Kd.R_reads' HO596.out).2.2; have hcut118 := cut_to (P := Tryd.prog) 48 27 .i64 Tryd.underlying48 hi0118 Ao117 t594.length co117 (t598.length : Int) (of_decide_eq_true (by first | (with_reducible assumption) | assumption)) q118 hroom118; have hr118 := Kd.C_take (m := ((t598.length : Int) : Int).toNat) hC118 (by omega); have hy118 : y602.length = ((t598.length : Int) : Int).toNat := (by rw [Ny602.out, List.length_take]; omega); rw [← Ny602.out] at hr118; rw [← hy118] at hcut118; have HR605 := Aside0.mk hr118; have HC605 := Aside0.mk (show y602.length ≤ co117 from by omega); clear hr118 hC118 hroom118 hi0118 hsz118; have KY118 := Aside0.mk hy118; clear hy118; have KL118 := Aside0.mk (show ((t598.length : Int) : Int).toNat ≤ t594.length from by omega); replace q118 := eq_true q118) | (go_at_call 42; (with_reducible refine (laws_vRecords.calls kj51 _ _ t598 _ _ y602 true _ ?side1 ?side2 ?side3 ?side4 A91.out).mono ?_); (case side1 => repeat (first | exact (Kd.R_reads' HO600.out).2.2 | (with_reducible refine Kd.C_alloc ?_ _) | (with_reducible refine Kd.C_drewN ?_ _) | (with_reducible refine Kd.C_drew ?_))); (case side2 => exact (Kd.R_reads' HO600.out).2.1); (case side3 => repeat (first | exact (by repeat (first | (with_reducible exact HR605.out) | (with_reducible refine Kd.C_alloc ?_ _) | (with_reducible refine Kd.C_drewN ?_ _) | (with_reducible refine Kd.C_drew ?_) | exact HR605.out)) | (with_reducible refine Kd.C_alloc ?_ _) | (with_reducible refine Kd.C_drewN ?_ _) | (with_reducible refine Kd.C_drew ?_))); (case side4 => exact HC605.out); rintro e w' ⟨rfl, ⟨nd, rfl⟩⟩; have hcz119_0 : w115.cell? ⟨gb566, 0, none⟩ = some (.string t561) := (blk_cell BK566.out 0).trans rfl; have hcz119_1 : w115.cell? ⟨gb566, 1, none⟩ = some (.string t562) := (blk_cell BK566.out 1).trans rfl; have hcz119_2 : w115.cell? ⟨gb566, 2, none⟩ = some (.int .i64 t563) := (blk_cell BK566.out 2).trans rfl; have hfz119_0 := blk_frozen BK566.out 0; have hfz119_1 := blk_frozen BK566.out 1; have hfz119_2 := blk_frozen BK566.out 2))
                            go_ret
                            exact ⟨by first | rfl | (simp [errW_none, errW_some] <;> rfl) | (simp [*, errW_none, errW_some] <;> rfl), by repeat (first | (with_reducible first | exact HB.out | apply below_alloc | apply pw_below_drewN | apply below_drew1 | refine below_set ?_ GE566.out | refine below_set ?_ GE580.out | refine below_set ?_ GE586.out | refine below_set ?_ GE592.out) | exact HB.out)⟩
                          · rw [if_neg c106] at H
                            have c106b0 : decide (t564 < (t562.size : Int)) = false := decide_eq_false c106
                            clear c106
                            obtain rfl := Option.some.inj H
                            have hnb120 := NB566_580.out
                            have hnc120 := NB580_566.out
                            have hnb121 := NB566_586.out
                            have hnc121 := NB586_566.out
                            have hnb122 := NB566_592.out
                            have hnc122 := NB592_566.out
                            have hcz123_0 : wc.cell? ⟨gb566, 0, none⟩ = some (.string t561) := (blk_cell BK566.out 0).trans rfl
                            have hcz123_1 : wc.cell? ⟨gb566, 1, none⟩ = some (.string t562) := (blk_cell BK566.out 1).trans rfl
                            have hcz123_2 : wc.cell? ⟨gb566, 2, none⟩ = some (.int .i64 t563) := (blk_cell BK566.out 2).trans rfl
                            have hfz123_0 := blk_frozen BK566.out 0
                            have hfz123_1 := blk_frozen BK566.out 1
                            have hfz123_2 := blk_frozen BK566.out 2
                            go_wp2_with (first | ((with_reducible refine gate_callee (f := 30) rfl ?_); refine goesL_ (some 115) rfl rfl Tryd.func30 (by kernel_rfl) rfl #[.agg #[.string t561, .string t562, .int .i64 t563]] rfl (by (try simp only [List.map_toArray, List.map_cons, List.map_nil]); first | done | rfl | (simp only [List.length_drop, List.length_take]; rfl)) ?_; (with_reducible refine (impl_LogRecords.calls kj51 t561 t562 t563 t594 t597 _ ?side1 A86.out).mono ?_); (case side1 => exact GT.below hG_.out (by repeat (first | (with_reducible first | exact HB.out | apply below_alloc | apply pw_below_drewN | apply below_drew1 | refine below_set ?_ GE566.out | refine below_set ?_ GE580.out | refine below_set ?_ GE586.out | refine below_set ?_ GE592.out) | exact HB.out)) (Nat.le_refl _)); rintro e w124 ⟨v595, rfl, ho0, hb⟩; refine ⟨_, rfl, ?_⟩; have n0_ := Aside0.mk (Kd.R_lower ho0 (below_size (by repeat (first | (with_reducible first | exact HB.out | apply below_alloc | apply pw_below_drewN | apply below_drew1 | refine below_set ?_ GE566.out | refine below_set ?_ GE580.out | refine below_set ?_ GE586.out | refine below_set ?_ GE592.out) | exact HB.out)))); have n1_ := Aside0.mk (blk_below (g := gb566) (o := .cells #[.string t561, .string t562, .int .i64 t563] 31 (0, 0)) (by (with_reducible repeat (first | refine blk_drewN ?_ _ | refine blk_drew ?_ | refine blk_alloc ?_ _)); exact BK566.out) hb); have n2_ := Aside0.mk (blk_below (g := gb580) (o := .cells #[.string t575, .string t576, .int .i64 t577] 31 (0, 0)) (by (with_reducible repeat (first | refine blk_drewN ?_ _ | refine blk_drew ?_ | refine blk_alloc ?_ _)); exact BK580.out) hb); have n3_ := Aside0.mk (blk_below (g := gb586) (o := .cells #[.string t581, .string t582, .int .i64 t583] 31 (0, 0)) (by (with_reducible repeat (first | refine blk_drewN ?_ _ | refine blk_drew ?_ | refine blk_alloc ?_ _)); exact BK586.out) hb); have n4_ := Aside0.mk (blk_below (g := gb592) (o := .cells #[.string t587, .string t588, .int .i64 t589] 31 (0, 0)) (by (with_reducible repeat (first | refine blk_drewN ?_ _ | refine blk_drew ?_ | refine blk_alloc ?_ _)); exact BK592.out) hb); have n5_ := Aside0.mk (below_step (by repeat (first | (with_reducible first | exact HB.out | apply below_alloc | apply pw_below_drewN | apply below_drew1 | refine below_set ?_ GE566.out | refine below_set ?_ GE580.out | refine below_set ?_ GE586.out | refine below_set ?_ GE592.out) | exact HB.out)) hb); clear BK566; clear BK580; clear BK586; clear BK592; clear HB; have HO596 := n0_; have BK566 := n1_; have BK580 := n2_; have BK586 := n3_; have BK592 := n4_; have HB := n5_; clear n0_ n1_ n2_ n3_ n4_ n5_; (try clear hb); (try clear hb2); (try clear hk); (try clear hi); (try clear ho0); have hnb125 := NB592_580.out; have hnc125 := NB580_592.out; have hnb126 := NB592_586.out; have hnc126 := NB586_592.out; have hcz127_0 : w124.cell? ⟨gb592, 0, none⟩ = some (.string t587) := (blk_cell BK592.out 0).trans rfl; have hcz127_1 : w124.cell? ⟨gb592, 1, none⟩ = some (.string t588) := (blk_cell BK592.out 1).trans rfl; have hcz127_2 : w124.cell? ⟨gb592, 2, none⟩ = some (.int .i64 t589) := (blk_cell BK592.out 2).trans rfl; have hfz127_0 := blk_frozen BK592.out 0; have hfz127_1 := blk_frozen BK592.out 1; have hfz127_2 := blk_frozen BK592.out 2) | ((with_reducible refine gate_callee (f := 30) rfl ?_); refine goesL_ (some 120) rfl rfl Tryd.func30 (by kernel_rfl) rfl #[.agg #[.string t587, .string t588, .int .i64 t589]] rfl (by (try simp only [List.map_toArray, List.map_cons, List.map_nil]); first | done | rfl | (simp only [List.length_drop, List.length_take]; rfl)) ?_; (with_reducible refine (impl_LogRecords.calls kj51 t587 t588 t589 t598 t601 _ ?side1 A87.out).mono ?_); (case side1 => exact GT.below hG_.out (by repeat (first | (with_reducible first | exact HB.out | apply below_alloc | apply pw_below_drewN | apply below_drew1 | refine below_set ?_ GE566.out | refine below_set ?_ GE580.out | refine below_set ?_ GE586.out | refine below_set ?_ GE592.out) | exact HB.out)) (Nat.le_refl _)); rintro e w128 ⟨v599, rfl, ho0, hb⟩; refine ⟨_, rfl, ?_⟩; have n0_ := Aside0.mk (Kd.R_elder' (by (with_reducible repeat (first | apply Kd.R_alloc | apply Kd.R_drewN | apply Kd.R_drew)); exact HO596.out) (Kd.R_base ho0) hb); have n1_ := Aside0.mk (Kd.R_lower (Kd.R_new' ho0 (Kd.R_lt (by (with_reducible repeat (first | apply Kd.R_alloc | apply Kd.R_drewN | apply Kd.R_drew)); exact HO596.out))) (below_size (by repeat (first | (with_reducible first | exact HB.out | apply below_alloc | apply pw_below_drewN | apply below_drew1 | refine below_set ?_ GE566.out | refine below_set ?_ GE580.out | refine below_set ?_ GE586.out | refine below_set ?_ GE592.out) | exact HB.out)))); have n2_ := Aside0.mk (blk_below (g := gb566) (o := .cells #[.string t561, .string t562, .int .i64 t563] 31 (0, 0)) (by (with_reducible repeat (first | refine blk_drewN ?_ _ | refine blk_drew ?_ | refine blk_alloc ?_ _)); exact BK566.out) hb); have n3_ := Aside0.mk (blk_below (g := gb580) (o := .cells #[.string t575, .string t576, .int .i64 t577] 31 (0, 0)) (by (with_reducible repeat (first | refine blk_drewN ?_ _ | refine blk_drew ?_ | refine blk_alloc ?_ _)); exact BK580.out) hb); have n4_ := Aside0.mk (blk_below (g := gb586) (o := .cells #[.string t581, .string t582, .int .i64 t583] 31 (0, 0)) (by (with_reducible repeat (first | refine blk_drewN ?_ _ | refine blk_drew ?_ | refine blk_alloc ?_ _)); exact BK586.out) hb); have n5_ := Aside0.mk (blk_below (g := gb592) (o := .cells #[.string t587, .string t588, .int .i64 t589] 31 (0, 0)) (by (with_reducible repeat (first | refine blk_drewN ?_ _ | refine blk_drew ?_ | refine blk_alloc ?_ _)); exact BK592.out) hb); have n6_ := Aside0.mk (below_step (by repeat (first | (with_reducible first | exact HB.out | apply below_alloc | apply pw_below_drewN | apply below_drew1 | refine below_set ?_ GE566.out | refine below_set ?_ GE580.out | refine below_set ?_ GE586.out | refine below_set ?_ GE592.out) | exact HB.out)) hb); clear HO596; clear BK566; clear BK580; clear BK586; clear BK592; clear HB; have HO596 := n0_; have HO600 := n1_; have BK566 := n2_; have BK580 := n3_; have BK586 := n4_; have BK592 := n5_; have HB := n6_; clear n0_ n1_ n2_ n3_ n4_ n5_ n6_; (try clear hb); (try clear hb2); (try clear hk); (try clear hi); (try clear ho0); obtain ⟨Ao129, co129, eo129⟩ := Kd.R_slice HO600.out; subst eo129; obtain ⟨Ao130, co130, eo130⟩ := Kd.R_slice HO596.out; subst eo130; have q131 : ((t598.length : Int) : Int) ≤ ((t594.length : Int) : Int) := of_decide_eq_true (by first | (with_reducible assumption) | assumption); obtain ⟨i0131, hi0131, _, hsz131, _⟩ := info_parts info27; have hroom131 : t594.length ≤ co130 := (Kd.R_reads' HO596.out).2.1; have hC131 : Kd.C k27 _ Ao130 t594.length t594 := (Kd.R_reads' HO596.out).2.2; have hcut131 := cut_to (P := Tryd.prog) 48 27 .i64 Tryd.underlying48 hi0131 Ao130 t594.length co130 (t598.length : Int) (of_decide_eq_true (by first | (with_reducible assumption) | assumption)) q131 hroom131; have hr131 := Kd.C_take (m := ((t598.length : Int) : Int).toNat) hC131 (by omega); have hy131 : y602.length = ((t598.length : Int) : Int).toNat := (by rw [Ny602.out, List.length_take]; omega); rw [← Ny602.out] at hr131; rw [← hy131] at hcut131; have HR605 := Aside0.mk hr131; have HC605 := Aside0.mk (show y602.length ≤ co130 from by omega); clear hr131 hC131 hroom131 hi0131 hsz131; have KY131 := Aside0.mk hy131; clear hy131; have KL131 := Aside0.mk (show ((t598.length : Int) : Int).toNat ≤ t594.length from by omega); replace q131 := eq_true q131) | (go_at_call 42; (with_reducible refine (laws_vRecords.calls kj51 _ _ t598 _ _ y602 true _ ?side1 ?side2 ?side3 ?side4 A91.out).mono ?_); (case side1 => repeat (first | exact (Kd.R_reads' HO600.out).2.2 | (with_reducible refine Kd.C_alloc ?_ _) | (with_reducible refine Kd.C_drewN ?_ _) | (with_reducible refine Kd.C_drew ?_))); (case side2 => exact (Kd.R_reads' HO600.out).2.1); (case side3 => repeat (first | exact (by repeat (first | (with_reducible exact HR605.out) | (with_reducible refine Kd.C_alloc ?_ _) | (with_reducible refine Kd.C_drewN ?_ _) | (with_reducible refine Kd.C_drew ?_) | exact HR605.out)) | (with_reducible refine Kd.C_alloc ?_ _) | (with_reducible refine Kd.C_drewN ?_ _) | (with_reducible refine Kd.C_drew ?_))); (case side4 => exact HC605.out); rintro e w' ⟨rfl, ⟨nd, rfl⟩⟩; have hcz132_0 : w128.cell? ⟨gb566, 0, none⟩ = some (.string t561) := (blk_cell BK566.out 0).trans rfl; have hcz132_1 : w128.cell? ⟨gb566, 1, none⟩ = some (.string t562) := (blk_cell BK566.out 1).trans rfl; have hcz132_2 : w128.cell? ⟨gb566, 2, none⟩ = some (.int .i64 t563) := (blk_cell BK566.out 2).trans rfl; have hfz132_0 := blk_frozen BK566.out 0; have hfz132_1 := blk_frozen BK566.out 1; have hfz132_2 := blk_frozen BK566.out 2))
                            go_ret
                            exact ⟨by first | rfl | (simp [errW_none, errW_some] <;> rfl) | (simp [*, errW_none, errW_some] <;> rfl), by repeat (first | (with_reducible first | exact HB.out | apply below_alloc | apply pw_below_drewN | apply below_drew1 | refine below_set ?_ GE566.out | refine below_set ?_ GE580.out | refine below_set ?_ GE586.out | refine below_set ?_ GE592.out) | exact HB.out)⟩
                      · replace c92 := Bool.eq_false_iff.mpr c92
                        subst c92
                        have H1 : (some false) = some r := by rw [if_neg (show ¬ (false = true) by decide)] at H; exact H
                        clear H
                        have H := H1
                        clear H1
                        obtain rfl := Option.some.inj H
                        have hnb133 := NB566_580.out
                        have hnc133 := NB580_566.out
                        have hnb134 := NB566_586.out
                        have hnc134 := NB586_566.out
                        have hnb135 := NB566_592.out
                        have hnc135 := NB592_566.out
                        have hcz136_0 : wc.cell? ⟨gb566, 0, none⟩ = some (.string t561) := (blk_cell BK566.out 0).trans rfl
                        have hcz136_1 : wc.cell? ⟨gb566, 1, none⟩ = some (.string t562) := (blk_cell BK566.out 1).trans rfl
                        have hcz136_2 : wc.cell? ⟨gb566, 2, none⟩ = some (.int .i64 t563) := (blk_cell BK566.out 2).trans rfl
                        have hfz136_0 := blk_frozen BK566.out 0
                        have hfz136_1 := blk_frozen BK566.out 1
                        have hfz136_2 := blk_frozen BK566.out 2
                        go_wp2_with (first | ((with_reducible refine gate_callee (f := 30) rfl ?_); refine goesL_ (some 115) rfl rfl Tryd.func30 (by kernel_rfl) rfl #[.agg #[.string t561, .string t562, .int .i64 t563]] rfl (by (try simp only [List.map_toArray, List.map_cons, List.map_nil]); first | done | rfl | (simp only [List.length_drop, List.length_take]; rfl)) ?_; (with_reducible refine (impl_LogRecords.calls kj51 t561 t562 t563 t594 t597 _ ?side1 A86.out).mono ?_); (case side1 => exact GT.below hG_.out (by repeat (first | (with_reducible first | exact HB.out | apply below_alloc | apply pw_below_drewN | apply below_drew1 | refine below_set ?_ GE566.out | refine below_set ?_ GE580.out | refine below_set ?_ GE586.out | refine below_set ?_ GE592.out) | exact HB.out)) (Nat.le_refl _)); rintro e w137 ⟨v595, rfl, ho0, hb⟩; refine ⟨_, rfl, ?_⟩; have n0_ := Aside0.mk (Kd.R_lower ho0 (below_size (by repeat (first | (with_reducible first | exact HB.out | apply below_alloc | apply pw_below_drewN | apply below_drew1 | refine below_set ?_ GE566.out | refine below_set ?_ GE580.out | refine below_set ?_ GE586.out | refine below_set ?_ GE592.out) | exact HB.out)))); have n1_ := Aside0.mk (blk_below (g := gb566) (o := .cells #[.string t561, .string t562, .int .i64 t563] 31 (0, 0)) (by (with_reducible repeat (first | refine blk_drewN ?_ _ | refine blk_drew ?_ | refine blk_alloc ?_ _)); exact BK566.out) hb); have n2_ := Aside0.mk (blk_below (g := gb580) (o := .cells #[.string t575, .string t576, .int .i64 t577] 31 (0, 0)) (by (with_reducible repeat (first | refine blk_drewN ?_ _ | refine blk_drew ?_ | refine blk_alloc ?_ _)); exact BK580.out) hb); have n3_ := Aside0.mk (blk_below (g := gb586) (o := .cells #[.string t581, .string t582, .int .i64 t583] 31 (0, 0)) (by (with_reducible repeat (first | refine blk_drewN ?_ _ | refine blk_drew ?_ | refine blk_alloc ?_ _)); exact BK586.out) hb); have n4_ := Aside0.mk (blk_below (g := gb592) (o := .cells #[.string t587, .string t588, .int .i64 t589] 31 (0, 0)) (by (with_reducible repeat (first | refine blk_drewN ?_ _ | refine blk_drew ?_ | refine blk_alloc ?_ _)); exact BK592.out) hb); have n5_ := Aside0.mk (below_step (by repeat (first | (with_reducible first | exact HB.out | apply below_alloc | apply pw_below_drewN | apply below_drew1 | refine below_set ?_ GE566.out | refine below_set ?_ GE580.out | refine below_set ?_ GE586.out | refine below_set ?_ GE592.out) | exact HB.out)) hb); clear BK566; clear BK580; clear BK586; clear BK592; clear HB; have HO596 := n0_; have BK566 := n1_; have BK580 := n2_; have BK586 := n3_; have BK592 := n4_; have HB := n5_; clear n0_ n1_ n2_ n3_ n4_ n5_; (try clear hb); (try clear hb2); (try clear hk); (try clear hi); (try clear ho0); have hnb138 := NB592_580.out; have hnc138 := NB580_592.out; have hnb139 := NB592_586.out; have hnc139 := NB586_592.out; have hcz140_0 : w137.cell? ⟨gb592, 0, none⟩ = some (.string t587) := (blk_cell BK592.out 0).trans rfl; have hcz140_1 : w137.cell? ⟨gb592, 1, none⟩ = some (.string t588) := (blk_cell BK592.out 1).trans rfl; have hcz140_2 : w137.cell? ⟨gb592, 2, none⟩ = some (.int .i64 t589) := (blk_cell BK592.out 2).trans rfl; have hfz140_0 := blk_frozen BK592.out 0; have hfz140_1 := blk_frozen BK592.out 1; have hfz140_2 := blk_frozen BK592.out 2) | ((with_reducible refine gate_callee (f := 30) rfl ?_); refine goesL_ (some 120) rfl rfl Tryd.func30 (by kernel_rfl) rfl #[.agg #[.string t587, .string t588, .int .i64 t589]] rfl (by (try simp only [List.map_toArray, List.map_cons, List.map_nil]); first | done | rfl | (simp only [List.length_drop, List.length_take]; rfl)) ?_; (with_reducible refine (impl_LogRecords.calls kj51 t587 t588 t589 t598 t601 _ ?side1 A87.out).mono ?_); (case side1 => exact GT.below hG_.out (by repeat (first | (with_reducible first | exact HB.out | apply below_alloc | apply pw_below_drewN | apply below_drew1 | refine below_set ?_ GE566.out | refine below_set ?_ GE580.out | refine below_set ?_ GE586.out | refine below_set ?_ GE592.out) | exact HB.out)) (Nat.le_refl _)); rintro e w141 ⟨v599, rfl, ho0, hb⟩; refine ⟨_, rfl, ?_⟩; have n0_ := Aside0.mk (Kd.R_elder' (by (with_reducible repeat (first | apply Kd.R_alloc | apply Kd.R_drewN | apply Kd.R_drew)); exact HO596.out) (Kd.R_base ho0) hb); have n1_ := Aside0.mk (Kd.R_lower (Kd.R_new' ho0 (Kd.R_lt (by (with_reducible repeat (first | apply Kd.R_alloc | apply Kd.R_drewN | apply Kd.R_drew)); exact HO596.out))) (below_size (by repeat (first | (with_reducible first | exact HB.out | apply below_alloc | apply pw_below_drewN | apply below_drew1 | refine below_set ?_ GE566.out | refine below_set ?_ GE580.out | refine below_set ?_ GE586.out | refine below_set ?_ GE592.out) | exact HB.out)))); have n2_ := Aside0.mk (blk_below (g := gb566) (o := .cells #[.string t561, .string t562, .int .i64 t563] 31 (0, 0)) (by (with_reducible repeat (first | refine blk_drewN ?_ _ | refine blk_drew ?_ | refine blk_alloc ?_ _)); exact BK566.out) hb); have n3_ := Aside0.mk (blk_below (g := gb580) (o := .cells #[.string t575, .string t576, .int .i64 t577] 31 (0, 0)) (by (with_reducible repeat (first | refine blk_drewN ?_ _ | refine blk_drew ?_ | refine blk_alloc ?_ _)); exact BK580.out) hb); have n4_ := Aside0.mk (blk_below (g := gb586) (o := .cells #[.string t581, .string t582, .int .i64 t583] 31 (0, 0)) (by (with_reducible repeat (first | refine blk_drewN ?_ _ | refine blk_drew ?_ | refine blk_alloc ?_ _)); exact BK586.out) hb); have n5_ := Aside0.mk (blk_below (g := gb592) (o := .cells #[.string t587, .string t588, .int .i64 t589] 31 (0, 0)) (by (with_reducible repeat (first | refine blk_drewN ?_ _ | refine blk_drew ?_ | refine blk_alloc ?_ _)); exact BK592.out) hb); have n6_ := Aside0.mk (below_step (by repeat (first | (with_reducible first | exact HB.out | apply below_alloc | apply pw_below_drewN | apply below_drew1 | refine below_set ?_ GE566.out | refine below_set ?_ GE580.out | refine below_set ?_ GE586.out | refine below_set ?_ GE592.out) | exact HB.out)) hb); clear HO596; clear BK566; clear BK580; clear BK586; clear BK592; clear HB; have HO596 := n0_; have HO600 := n1_; have BK566 := n2_; have BK580 := n3_; have BK586 := n4_; have BK592 := n5_; have HB := n6_; clear n0_ n1_ n2_ n3_ n4_ n5_ n6_; (try clear hb); (try clear hb2); (try clear hk); (try clear hi); (try clear ho0); obtain ⟨Ao142, co142, eo142⟩ := Kd.R_slice HO600.out; subst eo142; obtain ⟨Ao143, co143, eo143⟩ := Kd.R_slice HO596.out; subst eo143; have q144 : ((t598.length : Int) : Int) ≤ ((t594.length : Int) : Int) := of_decide_eq_true (by first | (with_reducible assumption) | assumption); obtain ⟨i0144, hi0144, _, hsz144, _⟩ := info_parts info27; have hroom144 : t594.length ≤ co143 := (Kd.R_reads' HO596.out).2.1; have hC144 : Kd.C k27 _ Ao143 t594.length t594 := (Kd.R_reads' HO596.out).2.2; have hcut144 := cut_to (P := Tryd.prog) 48 27 .i64 Tryd.underlying48 hi0144 Ao143 t594.length co143 (t598.length : Int) (of_decide_eq_true (by first | (with_reducible assumption) | assumption)) q144 hroom144; have hr144 := Kd.C_take (m := ((t598.length : Int) : Int).toNat) hC144 (by omega); have hy144 : y602.length = ((t598.length : Int) : Int).toNat := (by rw [Ny602.out, List.length_take]; omega); rw [← Ny602.out] at hr144; rw [← hy144] at hcut144; have HR605 := Aside0.mk hr144; have HC605 := Aside0.mk (show y602.length ≤ co143 from by omega); clear hr144 hC144 hroom144 hi0144 hsz144; have KY144 := Aside0.mk hy144; clear hy144; have KL144 := Aside0.mk (show ((t598.length : Int) : Int).toNat ≤ t594.length from by omega); replace q144 := eq_true q144) | (go_at_call 42; (with_reducible refine (laws_vRecords.calls kj51 _ _ t598 _ _ y602 false _ ?side1 ?side2 ?side3 ?side4 A91.out).mono ?_); (case side1 => repeat (first | exact (Kd.R_reads' HO600.out).2.2 | (with_reducible refine Kd.C_alloc ?_ _) | (with_reducible refine Kd.C_drewN ?_ _) | (with_reducible refine Kd.C_drew ?_))); (case side2 => exact (Kd.R_reads' HO600.out).2.1); (case side3 => repeat (first | exact (by repeat (first | (with_reducible exact HR605.out) | (with_reducible refine Kd.C_alloc ?_ _) | (with_reducible refine Kd.C_drewN ?_ _) | (with_reducible refine Kd.C_drew ?_) | exact HR605.out)) | (with_reducible refine Kd.C_alloc ?_ _) | (with_reducible refine Kd.C_drewN ?_ _) | (with_reducible refine Kd.C_drew ?_))); (case side4 => exact HC605.out); rintro e w' ⟨rfl, ⟨nd, rfl⟩⟩))
                        go_ret
                        exact ⟨by first | rfl | (simp [errW_none, errW_some] <;> rfl) | (simp [*, errW_none, errW_some] <;> rfl), by repeat (first | (with_reducible first | exact HB.out | apply below_alloc | apply pw_below_drewN | apply below_drew1 | refine below_set ?_ GE566.out | refine below_set ?_ GE580.out | refine below_set ?_ GE586.out | refine below_set ?_ GE592.out) | exact HB.out)⟩
                    · rw [if_neg c89] at H
                      exact absurd H (by simp)
                  · rw [if_neg c88] at H
                    have c88b0 : decide ((t598.length : Int) ≤ (t594.length : Int)) = false := decide_eq_false c88
                    have c88b1 : decide (t598.length ≤ t594.length) = false := decide_eq_false (fun h => c88 (Int.ofNat_le.mpr h))
                    clear c88
                    obtain rfl := Option.some.inj H
                    have hnb145 := NB566_580.out
                    have hnc145 := NB580_566.out
                    have hnb146 := NB566_586.out
                    have hnc146 := NB586_566.out
                    have hnb147 := NB566_592.out
                    have hnc147 := NB592_566.out
                    have hcz148_0 : wc.cell? ⟨gb566, 0, none⟩ = some (.string t561) := (blk_cell BK566.out 0).trans rfl
                    have hcz148_1 : wc.cell? ⟨gb566, 1, none⟩ = some (.string t562) := (blk_cell BK566.out 1).trans rfl
                    have hcz148_2 : wc.cell? ⟨gb566, 2, none⟩ = some (.int .i64 t563) := (blk_cell BK566.out 2).trans rfl
                    have hfz148_0 := blk_frozen BK566.out 0
                    have hfz148_1 := blk_frozen BK566.out 1
                    have hfz148_2 := blk_frozen BK566.out 2
                    go_wp2_with (first | ((with_reducible refine gate_callee (f := 30) rfl ?_); refine goesL_ (some 115) rfl rfl Tryd.func30 (by kernel_rfl) rfl #[.agg #[.string t561, .string t562, .int .i64 t563]] rfl (by (try simp only [List.map_toArray, List.map_cons, List.map_nil]); first | done | rfl | (simp only [List.length_drop, List.length_take]; rfl)) ?_; (with_reducible refine (impl_LogRecords.calls kj51 t561 t562 t563 t594 t597 _ ?side1 A86.out).mono ?_); (case side1 => exact GT.below hG_.out (by repeat (first | (with_reducible first | exact HB.out | apply below_alloc | apply pw_below_drewN | apply below_drew1 | refine below_set ?_ GE566.out | refine below_set ?_ GE580.out | refine below_set ?_ GE586.out | refine below_set ?_ GE592.out) | exact HB.out)) (Nat.le_refl _)); rintro e w149 ⟨v595, rfl, ho0, hb⟩; refine ⟨_, rfl, ?_⟩; have n0_ := Aside0.mk (Kd.R_lower ho0 (below_size (by repeat (first | (with_reducible first | exact HB.out | apply below_alloc | apply pw_below_drewN | apply below_drew1 | refine below_set ?_ GE566.out | refine below_set ?_ GE580.out | refine below_set ?_ GE586.out | refine below_set ?_ GE592.out) | exact HB.out)))); have n1_ := Aside0.mk (blk_below (g := gb566) (o := .cells #[.string t561, .string t562, .int .i64 t563] 31 (0, 0)) (by (with_reducible repeat (first | refine blk_drewN ?_ _ | refine blk_drew ?_ | refine blk_alloc ?_ _)); exact BK566.out) hb); have n2_ := Aside0.mk (blk_below (g := gb580) (o := .cells #[.string t575, .string t576, .int .i64 t577] 31 (0, 0)) (by (with_reducible repeat (first | refine blk_drewN ?_ _ | refine blk_drew ?_ | refine blk_alloc ?_ _)); exact BK580.out) hb); have n3_ := Aside0.mk (blk_below (g := gb586) (o := .cells #[.string t581, .string t582, .int .i64 t583] 31 (0, 0)) (by (with_reducible repeat (first | refine blk_drewN ?_ _ | refine blk_drew ?_ | refine blk_alloc ?_ _)); exact BK586.out) hb); have n4_ := Aside0.mk (blk_below (g := gb592) (o := .cells #[.string t587, .string t588, .int .i64 t589] 31 (0, 0)) (by (with_reducible repeat (first | refine blk_drewN ?_ _ | refine blk_drew ?_ | refine blk_alloc ?_ _)); exact BK592.out) hb); have n5_ := Aside0.mk (below_step (by repeat (first | (with_reducible first | exact HB.out | apply below_alloc | apply pw_below_drewN | apply below_drew1 | refine below_set ?_ GE566.out | refine below_set ?_ GE580.out | refine below_set ?_ GE586.out | refine below_set ?_ GE592.out) | exact HB.out)) hb); clear BK566; clear BK580; clear BK586; clear BK592; clear HB; have HO596 := n0_; have BK566 := n1_; have BK580 := n2_; have BK586 := n3_; have BK592 := n4_; have HB := n5_; clear n0_ n1_ n2_ n3_ n4_ n5_; (try clear hb); (try clear hb2); (try clear hk); (try clear hi); (try clear ho0); have hnb150 := NB592_580.out; have hnc150 := NB580_592.out; have hnb151 := NB592_586.out; have hnc151 := NB586_592.out; have hcz152_0 : w149.cell? ⟨gb592, 0, none⟩ = some (.string t587) := (blk_cell BK592.out 0).trans rfl; have hcz152_1 : w149.cell? ⟨gb592, 1, none⟩ = some (.string t588) := (blk_cell BK592.out 1).trans rfl; have hcz152_2 : w149.cell? ⟨gb592, 2, none⟩ = some (.int .i64 t589) := (blk_cell BK592.out 2).trans rfl; have hfz152_0 := blk_frozen BK592.out 0; have hfz152_1 := blk_frozen BK592.out 1; have hfz152_2 := blk_frozen BK592.out 2) | ((with_reducible refine gate_callee (f := 30) rfl ?_); refine goesL_ (some 120) rfl rfl Tryd.func30 (by kernel_rfl) rfl #[.agg #[.string t587, .string t588, .int .i64 t589]] rfl (by (try simp only [List.map_toArray, List.map_cons, List.map_nil]); first | done | rfl | (simp only [List.length_drop, List.length_take]; rfl)) ?_; (with_reducible refine (impl_LogRecords.calls kj51 t587 t588 t589 t598 t601 _ ?side1 A87.out).mono ?_); (case side1 => exact GT.below hG_.out (by repeat (first | (with_reducible first | exact HB.out | apply below_alloc | apply pw_below_drewN | apply below_drew1 | refine below_set ?_ GE566.out | refine below_set ?_ GE580.out | refine below_set ?_ GE586.out | refine below_set ?_ GE592.out) | exact HB.out)) (Nat.le_refl _)); rintro e w153 ⟨v599, rfl, ho0, hb⟩; refine ⟨_, rfl, ?_⟩; have n0_ := Aside0.mk (Kd.R_elder' (by (with_reducible repeat (first | apply Kd.R_alloc | apply Kd.R_drewN | apply Kd.R_drew)); exact HO596.out) (Kd.R_base ho0) hb); have n1_ := Aside0.mk (Kd.R_lower (Kd.R_new' ho0 (Kd.R_lt (by (with_reducible repeat (first | apply Kd.R_alloc | apply Kd.R_drewN | apply Kd.R_drew)); exact HO596.out))) (below_size (by repeat (first | (with_reducible first | exact HB.out | apply below_alloc | apply pw_below_drewN | apply below_drew1 | refine below_set ?_ GE566.out | refine below_set ?_ GE580.out | refine below_set ?_ GE586.out | refine below_set ?_ GE592.out) | exact HB.out)))); have n2_ := Aside0.mk (blk_below (g := gb566) (o := .cells #[.string t561, .string t562, .int .i64 t563] 31 (0, 0)) (by (with_reducible repeat (first | refine blk_drewN ?_ _ | refine blk_drew ?_ | refine blk_alloc ?_ _)); exact BK566.out) hb); have n3_ := Aside0.mk (blk_below (g := gb580) (o := .cells #[.string t575, .string t576, .int .i64 t577] 31 (0, 0)) (by (with_reducible repeat (first | refine blk_drewN ?_ _ | refine blk_drew ?_ | refine blk_alloc ?_ _)); exact BK580.out) hb); have n4_ := Aside0.mk (blk_below (g := gb586) (o := .cells #[.string t581, .string t582, .int .i64 t583] 31 (0, 0)) (by (with_reducible repeat (first | refine blk_drewN ?_ _ | refine blk_drew ?_ | refine blk_alloc ?_ _)); exact BK586.out) hb); have n5_ := Aside0.mk (blk_below (g := gb592) (o := .cells #[.string t587, .string t588, .int .i64 t589] 31 (0, 0)) (by (with_reducible repeat (first | refine blk_drewN ?_ _ | refine blk_drew ?_ | refine blk_alloc ?_ _)); exact BK592.out) hb); have n6_ := Aside0.mk (below_step (by repeat (first | (with_reducible first | exact HB.out | apply below_alloc | apply pw_below_drewN | apply below_drew1 | refine below_set ?_ GE566.out | refine below_set ?_ GE580.out | refine below_set ?_ GE586.out | refine below_set ?_ GE592.out) | exact HB.out)) hb); clear HO596; clear BK566; clear BK580; clear BK586; clear BK592; clear HB; have HO596 := n0_; have HO600 := n1_; have BK566 := n2_; have BK580 := n3_; have BK586 := n4_; have BK592 := n5_; have HB := n6_; clear n0_ n1_ n2_ n3_ n4_ n5_ n6_; (try clear hb); (try clear hb2); (try clear hk); (try clear hi); (try clear ho0); obtain ⟨Ao154, co154, eo154⟩ := Kd.R_slice HO600.out; subst eo154; obtain ⟨Ao155, co155, eo155⟩ := Kd.R_slice HO596.out; subst eo155))
                    go_ret
                    exact ⟨by first | rfl | (simp [errW_none, errW_some] <;> rfl) | (simp [*, errW_none, errW_some] <;> rfl), by repeat (first | (with_reducible first | exact HB.out | apply below_alloc | apply pw_below_drewN | apply below_drew1 | refine below_set ?_ GE566.out | refine below_set ?_ GE580.out | refine below_set ?_ GE586.out | refine below_set ?_ GE592.out) | exact HB.out)⟩
          · replace c50 := Bool.eq_false_iff.mpr c50
            subst c50
            have H1 : (some true) = some r := by rw [if_neg (show ¬ (false = true) by decide)] at H; exact H
            clear H
            have H := H1
            clear H1
            obtain rfl := Option.some.inj H
            go_wp2
            go_ret
            exact ⟨by first | rfl | (simp [errW_none, errW_some] <;> rfl) | (simp [*, errW_none, errW_some] <;> rfl), by repeat (first | (with_reducible first | exact HB.out | apply below_alloc | apply pw_below_drewN | apply below_drew1 | refine below_set ?_ GE566.out | refine below_set ?_ GE580.out | refine below_set ?_ GE586.out) | exact HB.out)⟩

/-- THE ONE PURE STATEMENT of laws_FnCrashes. -/
def laws_FnCrashes.Pure : Prop := ∀ (l0 : List Int), l0.length ≤ maxLen → l0.length * 1 ≤ 140737488351232 → (∀ x ∈ l0, (Lit.int .u8 x).wf = true) → ∃ k, laws_FnCrashes.f k l0 = some true
theorem laws_FnCrashes.walk (P : laws_FnCrashes.Pure) (a0 : Option Addr) (len0 cap0 : Nat) (z0 : List Int) (w : World) (w0 : (a0 = none ∧ len0 = 0 ∧ cap0 = 0 ∧ z0 = []) ∨ ∃ x, a0 = some x ∧ len0 ≤ cap0 ∧ cap0 ≤ maxLen ∧ z0.length = cap0 ∧ (∀ i, i < z0.length → w.cell? (x.add i) = some (.int .u8 (z0.getD i 0))) ∧ ∀ n ∈ z0, (Lit.int .u8 n).wf = true) (y0 : len0 * 1 ≤ 140737488351232) (hG : GT w) :
    Calls Tryd.prog 11 #[.slice a0 len0 cap0] w fun e w' => e = .returned (.bool true) ∧ Below w.heap.size w w' := by
  obtain ⟨l0, rfl, hr0, hm0, hw0, hc0⟩ := ReadsInt.ofRowC w0
  obtain ⟨k, h⟩ := P l0 hm0 y0 hw0
  refine (laws_FnCrashes.calls k _ _ l0 true w (Kd.C_of_reads (d := (0 : Int)) (h1 := fun _ => rfl) hr0) hc0 hG h).mono ?_
  rintro e w' ⟨rfl, hd⟩
  exact ⟨rfl, hd⟩

end Go.Proofs.YtccbpfconceoeaaDoor.P
