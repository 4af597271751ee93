/- Words for '[]byte(s)' whose bytes are then set: the block's cells, its mark, and the text read out of it again. Plain: no program. -/
import Derived.Test.YtccbpfconceoeaaDoorWWords
import Derived.Test.YtccbpfconceoeaaDoorWLast
import Derived.Test.YtccbpfconceoeaaDoorWMore
import Derived.Lib.ConvBytes
import Derived.Lib.AtoiErrMem
import Derived.BigQuiet
namespace Go.Proofs.YtccbpfconceoeaaDoor.P
open Go.RowKit Go.Proofs.YtccbpfconceoeaaDoorW.PrintWords Go.Proofs.YtccbpfconceoeaaDoorW.PrintLast Go.Proofs.YtccbpfconceoeaaDoorW.PrintMore
set_option linter.unusedVariables false
theorem reads_set {w : World} {g n j : Nat} {xs : List Int} (h : ReadsInt w .u8 (some ⟨g, 0, none⟩) n xs) (hj : j < n) (u : Int) : ReadsInt (w.setCell ⟨g, j, none⟩ (.int .u8 u)) .u8 (some ⟨g, 0, none⟩) n (xs.set j u) := by
  refine ⟨by rw [List.length_set]; exact h.1, h.2.1, fun hp => ⟨_, rfl, fun i hi => ?_⟩⟩
  obtain ⟨ad, e, hc⟩ := h.2.2 hp
  injection e with e
  subst e
  have h1 := hc i hi
  have h2 := hc j hj
  rw [add_plain] at h1 h2 ⊢
  by_cases he : i = j
  · subst he
    rw [World.cell?_setCell_same (h := h1), List.getD_eq_getElem?_getD, List.getElem?_set_self (by rw [h.1]; exact hi)]
    rfl
  · rw [World.cell?_setCell_other (h := show (⟨g, j, none⟩ : Addr) ≠ ⟨g, i, none⟩ from fun hh => by injection hh with _ hh; exact he hh.symm), h1, List.getD_eq_getElem?_getD, List.getD_eq_getElem?_getD, List.getElem?_set_ne (by omega)]
theorem strOfNums_bytesOf (s : ByteArray) : strOfNums (bytesOf s) = s := by
  unfold strOfNums bytesOf
  obtain ⟨⟨l⟩⟩ := s
  simp only [List.map_map]
  congr 2
  have : ((fun n : Int => UInt8.ofNat n.toNat) ∘ fun b : UInt8 => (b.toNat : Int)) = id := by funext b; simp
  rw [this, List.map_id]
theorem conv_back {P : Program} {ts tb te : TypeId} (hb : P.underlying tb = some (.slice te)) (he : P.underlying te = some (.int .u8)) (hs : P.underlying ts = some .string) {w6 : World} {s : ByteArray} (h : s.size ≤ 9223372036854775807) : (convert tb ts (.slice (some ⟨w6.heap.size, 0, none⟩) s.size (grownCap w6 s.size 0 te))).run P (Lib.bytesWorld w6 te s) = .ok (.string (strOfNums (bytesOf s))) (Lib.bytesWorld w6 te s) :=
  string_of_reads hb he hs (bytes_reads w6 te s h)
theorem conv_old {te : TypeId} {w6 : World} {s : ByteArray} {g j : Nat} {o : Obj} {v : Value} (hb : w6.heap[g]? = some o) (hc : w6.cell? ⟨g, j, none⟩ = some v) : (Lib.bytesWorld w6 te s).cell? ⟨g, j, none⟩ = some v := (Lib.bytesWorld_old w6 te s ⟨g, j, none⟩ (blk_lt hb)).trans hc
theorem conv_cell {te : TypeId} {w6 : World} {s : ByteArray} {j : Nat} (hj : j < s.size) : (Lib.bytesWorld w6 te s).cell? ⟨w6.heap.size, j, none⟩ = some (.int .u8 (rd (bytesOf s) j)) := by
  rw [Lib.bytesWorld_cell w6 te s j hj]
  have h' : j < s.data.toList.length := by rw [data_length]; exact hj
  simp [rd, bytesOf, List.getD_eq_getElem?_getD, List.getElem?_eq_getElem h']
theorem conv_frozen {te : TypeId} {w6 : World} {s : ByteArray} {j : Nat} (hj : j < s.size) : (Lib.bytesWorld w6 te s).frozen? ⟨w6.heap.size, j, none⟩ = false := by
  have := Lib.bytesWorld_at_new w6 te s
  have hz : s.size ≤ (Lib.bytesCells w6 te s).size := by unfold Lib.bytesCells; rw [Array.size_append, Array.size_map]; exact Nat.le_add_right _ _
  simp only [World.frozen?, this]
  rw [decide_eq_false (by omega)]
  rfl
theorem conv_far {te : TypeId} {w6 : World} {s : ByteArray} {g j : Nat} {o : Obj} {v u : Value} (hb : w6.heap[g]? = some o) (hc : (Lib.bytesWorld w6 te s).cell? ⟨g, 0, none⟩ = some v) : ((Lib.bytesWorld w6 te s).setCell ⟨w6.heap.size, j, none⟩ u).cell? ⟨g, 0, none⟩ = some v :=
  (cell_far (p := ⟨w6.heap.size, j, none⟩) (a := ⟨g, 0, none⟩) (Nat.ne_of_lt (blk_lt hb)) u).trans hc
theorem conv_back2 {P : Program} {ts tb te : TypeId} (hb : P.underlying tb = some (.slice te)) (he : P.underlying te = some (.int .u8)) (hs : P.underlying ts = some .string) {w6 : World} {s : ByteArray} {j : Nat} (h : s.size ≤ 9223372036854775807) (hj : j < s.size) (u : Int) : (convert tb ts (.slice (some ⟨w6.heap.size, 0, none⟩) s.size (grownCap w6 s.size 0 te))).run P ((Lib.bytesWorld w6 te s).setCell ⟨w6.heap.size, j, none⟩ (.int .u8 u)) = .ok (.string (strOfNums ((bytesOf s).set j u))) ((Lib.bytesWorld w6 te s).setCell ⟨w6.heap.size, j, none⟩ (.int .u8 u)) :=
  string_of_reads hb he hs (reads_set (bytes_reads w6 te s h) hj u)
def tornL (torn : Bool) (keep j : Int) (l : List Int) : List Int := if torn = true ∧ 0 < keep then l.set j.toNat ((255 - rd l j) % 256) else l
end Go.Proofs.YtccbpfconceoeaaDoor.P
