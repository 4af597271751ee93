-- Written by wip/mp.py of this session over the kit's printer; Lean checks it.
import Derived.Test.YtccbpfconceoeaaDoorPx0
import Derived.Test.YtccbpfconceoeaaDoorPx5
import Derived.Test.YtccbpfconceoeaaDoorPx12
namespace Go.Proofs.YtccbpfconceoeaaDoor.P
open Go.RowKit Go.Proofs.YtccbpfconceoeaaDoorW.PrintWords Go.Proofs.YtccbpfconceoeaaDoorW.PrintLast Go.Proofs.YtccbpfconceoeaaDoorW.PrintMore
attribute [local go_sem] max2_int min2_int max_two min_two max_three min_three max_four min_four   -- for this text's walks alone
set_option linter.unusedVariables false
set_option linter.unusedSimpArgs false

/-! ### impl_CrashLog: function 24 -/
-- by hand
def impl_CrashLog.f (k : Nat) (d p : ByteArray) (n keep : Int) (torn : Bool) : Option (ByteArray × Bool) :=
  (impl_IsValidLog.f k d p n).bind fun v => if v = true then ((impl_in.f keep 0 p.size).bind fun u => if u = true then (if 0 ≤ keep ∧ keep ≤ p.size ∧ d.size + p.size ≤ 1000000 then some (strOfNums (tornL torn keep ((d.size : Int) + keep - 1) (bytesOf (d ++ p.extract 0 keep.toNat))), true) else none) else some (⟨#[]⟩, false)) else some (⟨#[]⟩, false)
set_option maxRecDepth 20000 in
theorem impl_CrashLog.calls (k : Nat) (d p : ByteArray) (n keep : Int) (torn : Bool) (r1 : ByteArray) (r2 : Bool) (w : World) (hG : GT w) (h : impl_CrashLog.f k d p n keep torn = some (r1, r2)) :
    Calls Tryd.prog 24 #[.agg #[.string d, .string p, .int .i64 n], .int .i64 keep, .bool torn] w fun e w' => e = .returned (.tuple #[.string r1, .bool r2]) ∧ Below w.heap.size w w' := by
  have hu31 := Tryd.underlying31
  have hG_ := Aside0.mk hG
  clear hG
  have HB := Aside0.mk (Below.refl w.heap.size w)
  unfold impl_CrashLog.f at h
  obtain ⟨v, hv, h⟩ := Option.bind_eq_some_iff.mp h
  have A1 := Aside0.mk hv
  clear hv
  have H := Aside0.mk h
  clear h
  cases v with
  | false =>
    have h := H.out
    clear H
    rw [if_neg (by simp)] at h
    simp only [Option.some.injEq, Prod.mk.injEq] at h
    obtain ⟨rfl, rfl⟩ := h
    go_enter Tryd.func24, Tryd.ntmps24
    go_wp2_with (first | ((with_reducible refine gate_dst (N := 3) rfl ?_); refine box_event ?hg (N := 3) ?hd (cs := #[.string d, .string p, .int .i64 n]) (t := 31) ?hr ?_; (case hd => rfl); (case hg => rfl); (case hr => first | (go_simp; done) | (go_simp; rfl)); intro g3 hg w4 hbox hb; have HB1 := Aside0.mk (below_step HB.out hb); have BK := Aside0.mk hbox; have GE := Aside0.mk ((by rw [hg]; exact HB.out.size) : w.heap.size ≤ g3); clear HB; clear hb hbox hg; have hc0 : w4.cell? ⟨g3, 0, none⟩ = some (.string d) := (blk_cell BK.out 0).trans rfl; have hc1 : w4.cell? ⟨g3, 1, none⟩ = some (.string p) := (blk_cell BK.out 1).trans rfl; have hc2 : w4.cell? ⟨g3, 2, none⟩ = some (.int .i64 n) := (blk_cell BK.out 2).trans rfl) | (go_at_call 22; (with_reducible refine (impl_IsValidLog.calls k d p n false _ ?side A1.out).mono ?_); (case side => exact GT.below hG_.out HB1.out (Nat.le_refl _)); rintro e w5 ⟨rfl, hb⟩; have BK1 := Aside0.mk (blk_below BK.out hb); have HB2 := Aside0.mk (below_step HB1.out hb); clear HB1 BK hb; have hc5 : w5.cell? ⟨g3, 0, none⟩ = some (.string d) := (blk_cell BK1.out 0).trans rfl; have hc6 : w5.cell? ⟨g3, 1, none⟩ = some (.string p) := (blk_cell BK1.out 1).trans rfl))
    go_ret2
    exact ⟨rfl, by first | exact HB2.out | (repeat (first | exact HB2.out | apply below_alloc | apply pw_below_drewN | apply below_drew1))⟩
  | true =>
    have h := H.out
    clear H
    rw [if_pos rfl] at h
    obtain ⟨u, hu, h⟩ := Option.bind_eq_some_iff.mp h
    have A2 := Aside0.mk hu
    clear hu
    have H := Aside0.mk h
    clear h
    cases u with
    | false =>
      have h := H.out
      clear H
      rw [if_neg (by simp)] at h
      simp only [Option.some.injEq, Prod.mk.injEq] at h
      obtain ⟨rfl, rfl⟩ := h
      go_enter Tryd.func24, Tryd.ntmps24
      go_wp2_with (first | ((with_reducible refine gate_dst (N := 3) rfl ?_); refine box_event ?hg (N := 3) ?hd (cs := #[.string d, .string p, .int .i64 n]) (t := 31) ?hr ?_; (case hd => rfl); (case hg => rfl); (case hr => first | (go_simp; done) | (go_simp; rfl)); intro g3 hg w4 hbox hb; have HB1 := Aside0.mk (below_step HB.out hb); have BK := Aside0.mk hbox; have GE := Aside0.mk ((by rw [hg]; exact HB.out.size) : w.heap.size ≤ g3); clear HB; clear hb hbox hg; have hc0 : w4.cell? ⟨g3, 0, none⟩ = some (.string d) := (blk_cell BK.out 0).trans rfl; have hc1 : w4.cell? ⟨g3, 1, none⟩ = some (.string p) := (blk_cell BK.out 1).trans rfl; have hc2 : w4.cell? ⟨g3, 2, none⟩ = some (.int .i64 n) := (blk_cell BK.out 2).trans rfl) | (go_at_call 22; (with_reducible refine (impl_IsValidLog.calls k d p n true _ ?side A1.out).mono ?_); (case side => exact GT.below hG_.out HB1.out (Nat.le_refl _)); rintro e w5 ⟨rfl, hb⟩; have BK1 := Aside0.mk (blk_below BK.out hb); have HB2 := Aside0.mk (below_step HB1.out hb); clear HB1 BK hb; have hc5 : w5.cell? ⟨g3, 0, none⟩ = some (.string d) := (blk_cell BK1.out 0).trans rfl; have hc6 : w5.cell? ⟨g3, 1, none⟩ = some (.string p) := (blk_cell BK1.out 1).trans rfl) | (go_at_call 48; (with_reducible refine (impl_in.calls keep 0 p.size false _ A2.out).mono ?_); rintro e w6 ⟨rfl, hb⟩; have BK2 := Aside0.mk (blk_below BK1.out hb.below); have HB3 := Aside0.mk (below_step HB2.out hb.below); clear HB2 BK1 hb; have hc7 : w6.cell? ⟨g3, 0, none⟩ = some (.string d) := (blk_cell BK2.out 0).trans rfl; have hc8 : w6.cell? ⟨g3, 1, none⟩ = some (.string p) := (blk_cell BK2.out 1).trans rfl))
      go_ret2
      exact ⟨rfl, by first | exact HB3.out | (repeat (first | exact HB3.out | apply below_alloc | apply pw_below_drewN | apply below_drew1))⟩
    | true =>
      have h := H.out
      clear H
      rw [if_pos rfl] at h
      by_cases hk : 0 ≤ keep ∧ keep ≤ p.size ∧ d.size + p.size ≤ 1000000
      case neg => rw [if_neg hk] at h; exact absurd h (by simp)
      rw [if_pos hk] at h
      obtain ⟨k0, k1, k2⟩ := hk
      obtain ⟨m, rfl⟩ := Int.eq_ofNat_of_zero_le k0
      have hm : m ≤ p.size := by omega
      simp only [Option.some.injEq, Prod.mk.injEq, Int.toNat_natCast] at h
      obtain ⟨rfl, rfl⟩ := h
      have hsz : (p.extract 0 m).size = m := by rw [ByteArray.size_extract]; omega
      obtain ⟨q, hq⟩ : ∃ q, p.extract 0 m = q := ⟨_, rfl⟩
      rw [hq] at hsz
      rw [hq]
      subst hsz
      obtain ⟨s, hs⟩ : ∃ s, d ++ q = s := ⟨_, rfl⟩
      have hss : s.size = d.size + q.size := by rw [← hs, ByteArray.size_append]
      rw [hs]
      have hz1 : s.size ≤ 9223372036854775807 := by omega
      have hz4 : d.size + q.size ≤ 9223372036854775807 := by omega
      have kb := fun W => print_bytes (P := Tryd.prog) 9 53 5 Tryd.underlying9 Tryd.underlying53 Tryd.underlying5 s W
      have e1 : (d.size : Int) + (q.size : Int) - 1 = (s.size : Int) - 1 := by omega
      rw [e1]
      clear e1
      by_cases hq : torn = true ∧ 0 < q.size
      · have hpos : 0 < s.size := by omega
        obtain ⟨rfl, hqp⟩ := hq
        rw [show tornL true (q.size : Int) ((s.size : Int) - 1) (bytesOf s) = (bytesOf s).set ((s.size : Int) - 1).toNat ((255 - rd (bytesOf s) ((s.size : Int) - 1)) % 256) from if_pos ⟨rfl, by omega⟩]
        have hj : s.size - 1 < s.size := by omega
        have hw : (s.size : Int) - 1 = ((s.size - 1 : Nat) : Int) := by omega
        rw [hw, Int.toNat_natCast]
        obtain ⟨b, hb⟩ : ∃ b, rd (bytesOf s) ((s.size - 1 : Nat) : Int) = b := ⟨_, rfl⟩
        rw [hb]
        obtain ⟨L, hL⟩ : ∃ L, (bytesOf s).set (s.size - 1) ((255 - b) % 256) = L := ⟨_, rfl⟩
        rw [hL]
        have B_ := Aside0.mk hb
        have L_ := Aside0.mk hL
        clear hw hb hL hss
        go_enter Tryd.func24, Tryd.ntmps24
        go_upto_region 3 with (first | ((with_reducible refine gate_dst (N := 3) rfl ?_); refine box_event ?hg (N := 3) ?hd (cs := #[.string d, .string p, .int .i64 n]) (t := 31) ?hr ?_; (case hd => rfl); (case hg => rfl); (case hr => first | (go_simp; done) | (go_simp; rfl)); intro g3 hg w4 hbox hb; have HB1 := Aside0.mk (below_step HB.out hb); have BK := Aside0.mk hbox; have GE := Aside0.mk ((by rw [hg]; exact HB.out.size) : w.heap.size ≤ g3); clear HB; clear hb hbox hg; have hc0 : w4.cell? ⟨g3, 0, none⟩ = some (.string d) := (blk_cell BK.out 0).trans rfl; have hc1 : w4.cell? ⟨g3, 1, none⟩ = some (.string p) := (blk_cell BK.out 1).trans rfl; have hc2 : w4.cell? ⟨g3, 2, none⟩ = some (.int .i64 n) := (blk_cell BK.out 2).trans rfl) | (go_at_call 22; (with_reducible refine (impl_IsValidLog.calls k d p n true _ ?side A1.out).mono ?_); (case side => exact GT.below hG_.out HB1.out (Nat.le_refl _)); rintro e w5 ⟨rfl, hb⟩; have BK1 := Aside0.mk (blk_below BK.out hb); have HB2 := Aside0.mk (below_step HB1.out hb); clear HB1 BK hb; have hc5 : w5.cell? ⟨g3, 0, none⟩ = some (.string d) := (blk_cell BK1.out 0).trans rfl; have hc6 : w5.cell? ⟨g3, 1, none⟩ = some (.string p) := (blk_cell BK1.out 1).trans rfl) | (go_at_call 48; (with_reducible refine (impl_in.calls (q.size : Int) 0 p.size true _ A2.out).mono ?_); rintro e w6 ⟨rfl, hb⟩; have BK2 := Aside0.mk (blk_below BK1.out hb.below); have HB3 := Aside0.mk (below_step HB2.out hb.below); clear HB2 BK1 hb; have hc7 : w6.cell? ⟨g3, 0, none⟩ = some (.string d) := (blk_cell BK2.out 0).trans rfl; have hc8 : w6.cell? ⟨g3, 1, none⟩ = some (.string p) := (blk_cell BK2.out 1).trans rfl))
        go_region
        have hcj : (Lib.bytesWorld w6.drew 5 s).cell? ⟨w6.heap.size, s.size - 1, none⟩ = some (.int .u8 b) := B_.out ▸ conv_cell (te := 5) (w6 := w6.drew) hj
        have hfj : (Lib.bytesWorld w6.drew 5 s).frozen? ⟨w6.heap.size, s.size - 1, none⟩ = false := conv_frozen (te := 5) (w6 := w6.drew) hj
        have kc : (convert 53 9 (.slice (some ⟨w6.heap.size, 0, none⟩) s.size (grownCap w6.drew s.size 0 5))).run Tryd.prog ((Lib.bytesWorld w6.drew 5 s).setCell ⟨w6.heap.size, s.size - 1, none⟩ (.int .u8 ((255 - b) % 256))) = .ok (.string (strOfNums L)) ((Lib.bytesWorld w6.drew 5 s).setCell ⟨w6.heap.size, s.size - 1, none⟩ (.int .u8 ((255 - b) % 256))) := L_.out ▸ conv_back2 Tryd.underlying53 Tryd.underlying5 Tryd.underlying9 (w6 := w6.drew) hz1 hj ((255 - b) % 256)
        go_wp2
        go_ret2
        exact ⟨rfl, below_set (below_step (by repeat (first | exact HB3.out | apply below_drew1)) (Lib.bytesWorld_below w6.drew 5 s)) HB3.out.size⟩
      · rw [show tornL torn (q.size : Int) ((s.size : Int) - 1) (bytesOf s) = bytesOf s from if_neg (fun hh => hq ⟨hh.1, by omega⟩)]
        have hq2 : (torn = false ∨ (torn = true ∧ (0 < q.size) = False)) := by
          cases torn with
          | false => exact .inl rfl
          | true => exact .inr ⟨rfl, eq_false (fun h0 => hq ⟨rfl, h0⟩)⟩
        clear hq hss
        rcases hq2 with rfl | ⟨rfl, hq3⟩
        · go_enter Tryd.func24, Tryd.ntmps24
          go_upto_region 3 with (first | ((with_reducible refine gate_dst (N := 3) rfl ?_); refine box_event ?hg (N := 3) ?hd (cs := #[.string d, .string p, .int .i64 n]) (t := 31) ?hr ?_; (case hd => rfl); (case hg => rfl); (case hr => first | (go_simp; done) | (go_simp; rfl)); intro g3 hg w4 hbox hb; have HB1 := Aside0.mk (below_step HB.out hb); have BK := Aside0.mk hbox; have GE := Aside0.mk ((by rw [hg]; exact HB.out.size) : w.heap.size ≤ g3); clear HB; clear hb hbox hg; have hc0 : w4.cell? ⟨g3, 0, none⟩ = some (.string d) := (blk_cell BK.out 0).trans rfl; have hc1 : w4.cell? ⟨g3, 1, none⟩ = some (.string p) := (blk_cell BK.out 1).trans rfl; have hc2 : w4.cell? ⟨g3, 2, none⟩ = some (.int .i64 n) := (blk_cell BK.out 2).trans rfl) | (go_at_call 22; (with_reducible refine (impl_IsValidLog.calls k d p n true _ ?side A1.out).mono ?_); (case side => exact GT.below hG_.out HB1.out (Nat.le_refl _)); rintro e w5 ⟨rfl, hb⟩; have BK1 := Aside0.mk (blk_below BK.out hb); have HB2 := Aside0.mk (below_step HB1.out hb); clear HB1 BK hb; have hc5 : w5.cell? ⟨g3, 0, none⟩ = some (.string d) := (blk_cell BK1.out 0).trans rfl; have hc6 : w5.cell? ⟨g3, 1, none⟩ = some (.string p) := (blk_cell BK1.out 1).trans rfl) | (go_at_call 48; (with_reducible refine (impl_in.calls (q.size : Int) 0 p.size true _ A2.out).mono ?_); rintro e w6 ⟨rfl, hb⟩; have BK2 := Aside0.mk (blk_below BK1.out hb.below); have HB3 := Aside0.mk (below_step HB2.out hb.below); clear HB2 BK1 hb; have hc7 : w6.cell? ⟨g3, 0, none⟩ = some (.string d) := (blk_cell BK2.out 0).trans rfl; have hc8 : w6.cell? ⟨g3, 1, none⟩ = some (.string p) := (blk_cell BK2.out 1).trans rfl))
          go_region
          have kc : (convert 53 9 (.slice (some ⟨w6.heap.size, 0, none⟩) s.size (grownCap w6.drew s.size 0 5))).run Tryd.prog (Lib.bytesWorld w6.drew 5 s) = .ok (.string (strOfNums (bytesOf s))) (Lib.bytesWorld w6.drew 5 s) := conv_back Tryd.underlying53 Tryd.underlying5 Tryd.underlying9 (w6 := w6.drew) hz1
          go_wp2
          go_ret2
          exact ⟨rfl, below_step (by repeat (first | exact HB3.out | apply below_drew1)) (Lib.bytesWorld_below w6.drew 5 s)⟩
        · go_enter Tryd.func24, Tryd.ntmps24
          go_upto_region 3 with (first | ((with_reducible refine gate_dst (N := 3) rfl ?_); refine box_event ?hg (N := 3) ?hd (cs := #[.string d, .string p, .int .i64 n]) (t := 31) ?hr ?_; (case hd => rfl); (case hg => rfl); (case hr => first | (go_simp; done) | (go_simp; rfl)); intro g3 hg w4 hbox hb; have HB1 := Aside0.mk (below_step HB.out hb); have BK := Aside0.mk hbox; have GE := Aside0.mk ((by rw [hg]; exact HB.out.size) : w.heap.size ≤ g3); clear HB; clear hb hbox hg; have hc0 : w4.cell? ⟨g3, 0, none⟩ = some (.string d) := (blk_cell BK.out 0).trans rfl; have hc1 : w4.cell? ⟨g3, 1, none⟩ = some (.string p) := (blk_cell BK.out 1).trans rfl; have hc2 : w4.cell? ⟨g3, 2, none⟩ = some (.int .i64 n) := (blk_cell BK.out 2).trans rfl) | (go_at_call 22; (with_reducible refine (impl_IsValidLog.calls k d p n true _ ?side A1.out).mono ?_); (case side => exact GT.below hG_.out HB1.out (Nat.le_refl _)); rintro e w5 ⟨rfl, hb⟩; have BK1 := Aside0.mk (blk_below BK.out hb); have HB2 := Aside0.mk (below_step HB1.out hb); clear HB1 BK hb; have hc5 : w5.cell? ⟨g3, 0, none⟩ = some (.string d) := (blk_cell BK1.out 0).trans rfl; have hc6 : w5.cell? ⟨g3, 1, none⟩ = some (.string p) := (blk_cell BK1.out 1).trans rfl) | (go_at_call 48; (with_reducible refine (impl_in.calls (q.size : Int) 0 p.size true _ A2.out).mono ?_); rintro e w6 ⟨rfl, hb⟩; have BK2 := Aside0.mk (blk_below BK1.out hb.below); have HB3 := Aside0.mk (below_step HB2.out hb.below); clear HB2 BK1 hb; have hc7 : w6.cell? ⟨g3, 0, none⟩ = some (.string d) := (blk_cell BK2.out 0).trans rfl; have hc8 : w6.cell? ⟨g3, 1, none⟩ = some (.string p) := (blk_cell BK2.out 1).trans rfl))
          go_region
          have kc : (convert 53 9 (.slice (some ⟨w6.heap.size, 0, none⟩) s.size (grownCap w6.drew s.size 0 5))).run Tryd.prog (Lib.bytesWorld w6.drew 5 s) = .ok (.string (strOfNums (bytesOf s))) (Lib.bytesWorld w6.drew 5 s) := conv_back Tryd.underlying53 Tryd.underlying5 Tryd.underlying9 (w6 := w6.drew) hz1
          go_wp2
          go_ret2
          exact ⟨rfl, below_step (by repeat (first | exact HB3.out | apply below_drew1)) (Lib.bytesWorld_below w6.drew 5 s)⟩

end Go.Proofs.YtccbpfconceoeaaDoor.P
