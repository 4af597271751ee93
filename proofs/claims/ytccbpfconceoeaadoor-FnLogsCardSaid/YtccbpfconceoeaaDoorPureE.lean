/- What the functions over a log tell: opened, valid. No conditions but those that each theorem names. -/
import Derived.Test.YtccbpfconceoeaaDoorPx0
import Derived.Test.YtccbpfconceoeaaDoorPx10
import Derived.Test.YtccbpfconceoeaaDoorPx12
import Derived.Test.YtccbpfconceoeaaDoorPureA
import Derived.Test.YtccbpfconceoeaaDoorPureD
namespace Go.Proofs.YtccbpfconceoeaaDoor.Pure
open Go.RowKit Go.Proofs.YtccbpfconceoeaaDoor.P Go.Proofs.YtccbpfconceoeaaDoorW.PrintWords Go.Proofs.YtccbpfconceoeaaDoorW.PrintLast Go.Proofs.YtccbpfconceoeaaDoorW.PrintMore
open Classical
/-- The records of a text, and the places behind each. -/
noncomputable def recsOf (s : ByteArray) : List S27 := (scan (bs s) 60 [] 0).1
noncomputable def endsOf (s : ByteArray) : List Nat := (scan (bs s) 60 [] 0).2
noncomputable def endOf (s : ByteArray) : Nat := lastOf 0 (endsOf s)
noncomputable def intEnds (s : ByteArray) : List Int := 0 :: (endsOf s).map (fun (e : Nat) => (e : Int))
theorem open_ev (s : ByteArray) (hs : s.size ≤ 800000) : Ev (fun q => spec_l12Open.f q s) (recsOf s, (endOf s : Int)) := specOpen_ev s hs 60 [] 0 rfl (by omega)
theorem recs_ev (s : ByteArray) (hs : s.size ≤ 800000) : Ev (fun q => impl_records.f q s) (recsOf s, intEnds s) := records_ev s hs 60 [] [0] 0 rfl (by simp) (by omega)
theorem recs_len (s : ByteArray) : (recsOf s).length ≤ 60 ∧ (endsOf s).length ≤ 60 := by
  have := scan_len (bs s) 60 [] 0
  simp only [List.length_nil, Nat.zero_add] at this
  exact this
theorem lastOf_le (m : Nat) : ∀ (es : List Nat) (p : Nat), p ≤ m → (∀ e ∈ es, e ≤ m) → lastOf p es ≤ m
  | [], p, h, _ => h
  | e :: es, p, _, h => by rw [lastOf_cons]; exact lastOf_le m es e (h e (List.mem_cons_self ..)) (fun x hx => h x (List.mem_cons_of_mem _ hx))
theorem endOf_le (s : ByteArray) : endOf s ≤ s.size := by
  rw [← bs_len]
  exact lastOf_le _ _ _ (by omega) (scan_le (bs s) 60 [] 0)
theorem getD_last : ∀ (es : List Nat) (p : Nat), ((p :: es).map (fun (e : Nat) => (e : Int))).getD es.length 0 = (lastOf p es : Int)
  | [], p => rfl
  | e :: es, p => by rw [lastOf_cons, ← getD_last es e]; rfl
theorem intEnds_len (s : ByteArray) : (intEnds s).length = (endsOf s).length + 1 := by simp [intEnds]
theorem rd_last (s : ByteArray) : rd (intEnds s) (wrap64 (((intEnds s).length : Int) - 1)) = (endOf s : Int) := by
  have h := recs_len s
  rw [intEnds_len, w64 (by omega), show (((endsOf s).length + 1 : Nat) : Int) - 1 = ((endsOf s).length : Int) from by omega]
  unfold rd
  rw [Int.toNat_natCast]
  exact getD_last (endsOf s) 0
/-- Is a log one that may be? -/
noncomputable def validB (d p : ByteArray) (n : Int) : Bool := decide (d.size + p.size ≤ 30000) && (decide (endOf (d ++ p) = d.size + p.size) && (decide (endOf d = d.size) && decide ((recsOf (d ++ p)).length = n)))
theorem app_size (d p : ByteArray) : (d ++ p).size = d.size + p.size := ByteArray.size_append
theorem specValid_ev (d p : ByteArray) (n : Int) (hd : d.size ≤ 140737488351232) (hp : p.size ≤ 140737488351232) : Ev (fun q => spec_l12Valid.f q d p n) (validB d p n) := by
  unfold validB
  by_cases h : d.size + p.size ≤ 30000
  · rw [decide_eq_true h, Bool.true_and]
    have hz := app_size d p
    refine Ev.congr (f := fun q => (spec_l12Open.f q (d ++ p)).bind fun bt242 => ((spec_l12Open.f q d).bind fun bt246 => (if bt242.2 = ((d.size : Int) + (p.size : Int)) then (if bt246.2 = (d.size : Int) then (some ((bt242.1.length : Int) == n)) else (some false)) else (some false)))) (fun q => ?_) (Ev.bind (open_ev (d ++ p) (by omega)) (Ev.bind (open_ev d (by omega)) ?_))
    · unfold spec_l12Valid.f
      rw [w64 (by omega), if_neg (by omega), if_pos (by omega)]
    · by_cases h1 : endOf (d ++ p) = d.size + p.size
      · rw [decide_eq_true h1, Bool.true_and]
        by_cases h2 : endOf d = d.size
        · rw [decide_eq_true h2, Bool.true_and]
          have : (((recsOf (d ++ p)).length : Int) == n) = decide (((recsOf (d ++ p)).length : Int) = n) := by
            by_cases h3 : ((recsOf (d ++ p)).length : Int) = n
            · rw [decide_eq_true h3]; simpa using h3
            · rw [decide_eq_false h3]; simpa using h3
          refine Ev.congr (fun q => ?_) (Ev.now _)
          simp only
          rw [if_pos (by omega), if_pos (by omega), this]
        · rw [decide_eq_false h2, Bool.false_and]
          refine Ev.congr (fun q => ?_) (Ev.now _)
          simp only
          rw [if_pos (by omega), if_neg (by omega)]
      · rw [decide_eq_false h1, Bool.false_and]
        refine Ev.congr (fun q => ?_) (Ev.now _)
        simp only
        rw [if_neg (by omega)]
  · rw [decide_eq_false h, Bool.false_and]
    refine Ev.congr (fun q => ?_) (Ev.now _)
    unfold spec_l12Valid.f
    rw [w64 (by omega), if_pos (by omega)]
theorem read_loop (x4 : ByteArray) (x5 : List S27) (x6 x28 : List Int) (d0 d1 : ByteArray) (n : Int) (last : Int) (h6 : 1 ≤ x6.length) (h6b : x6.length ≤ 100) (hlast : rd x6 (wrap64 ((x6.length : Int) - 1)) = last) (h28 : x28.length ≤ 100) :
    ∀ (l : List Int) (j : Nat) (b : Bool), x28.drop j = l → j ≤ x28.length →
    Ev (fun q => impl_Log_read.l0 q x4 x5 x6 b x28 (x28.length : Int) (j : Int) d0 d1 n) (x5, (b || l.any (fun e => e == (d0.size : Int))) && (decide (last = (x4.size : Int)) && (n == (x5.length : Int)))) := by
  intro l
  induction l with
  | nil =>
    intro j b hl hj
    have hj' : j = x28.length := by have := congrArg List.length hl; simp at this; omega
    refine Ev.step (fun q => ?_) (Ev.now _)
    simp only [impl_Log_read.l0]
    have e : wrap64 ((x6.length : Int) - 1) = (x6.length : Int) - 1 := w64 (by omega)
    rw [if_neg (by omega)]
    cases b with
    | false => simp
    | true =>
      rw [if_pos rfl, if_pos (by omega), if_pos (by omega), hlast]
      by_cases h1 : last = (x4.size : Int)
      · rw [if_pos h1, decide_eq_true h1]; simp
      · rw [if_neg h1, decide_eq_false h1]; simp
  | cons c l ih =>
    intro j b hl hj
    have hlen := congrArg List.length hl
    simp only [List.length_drop, List.length_cons] at hlen
    have hd : x28.drop (j + 1) = l := by
      have e := List.drop_eq_getElem_cons (l := x28) (i := j) (by omega)
      rw [hl] at e
      injection e with _ e
      exact e.symm
    have hc : rd x28 (j : Int) = c := by
      have e := List.drop_eq_getElem_cons (l := x28) (i := j) (by omega)
      rw [hl] at e
      injection e with e _
      unfold rd
      rw [Int.toNat_natCast, e, List.getD_eq_getElem?_getD, List.getElem?_eq_getElem (by omega)]
      rfl
    have ih' := ih (j + 1) (b || (c == (d0.size : Int))) hd (by omega)
    rw [List.any_cons, ← Bool.or_assoc]
    refine Ev.step (fun q => ?_) ih'
    simp only [impl_Log_read.l0]
    rw [if_pos (by omega), if_pos (by omega), if_pos (by omega), hc, w64 (by omega)]
    cases b with
    | false => rw [if_neg (by simp)]; rfl
    | true => rw [if_pos rfl]; rfl
noncomputable def readB (d p : ByteArray) : List S27 := if d.size + p.size ≤ 30000 then recsOf (d ++ p) else []
theorem read_ev (d p : ByteArray) (n : Int) (hd : d.size ≤ 140737488351232) (hp : p.size ≤ 140737488351232) : Ev (fun q => impl_Log_read.f q d p n) (readB d p, validB d p n) := by
  unfold validB readB
  by_cases h : d.size + p.size ≤ 30000
  · rw [decide_eq_true h, Bool.true_and, if_pos h]
    have hz := app_size d p
    have hl := recs_len (d ++ p)
    have he := intEnds_len (d ++ p)
    have loop := read_loop (d ++ p) (recsOf (d ++ p)) (intEnds (d ++ p)) (intEnds (d ++ p)) d p n (endOf (d ++ p) : Int) (by omega) (by omega) (rd_last (d ++ p)) (by omega) (intEnds (d ++ p)) 0 false rfl (by omega)
    have cut := scan_cut (bs d) (bs p) 60 [] 0 (by omega)
    rw [← bs_append, bs_len] at cut
    have eAny : (intEnds (d ++ p)).any (fun e => e == (d.size : Int)) = decide (endOf d = d.size) := by
      have e0 : intEnds (d ++ p) = (0 :: endsOf (d ++ p)).map (fun (e : Nat) => (e : Int)) := rfl
      rw [Bool.eq_iff_iff, List.any_eq_true, decide_eq_true_eq]
      constructor
      · rintro ⟨x, hx, hxe⟩
        rw [e0, List.mem_map] at hx
        obtain ⟨y, hy, rfl⟩ := hx
        have : y = d.size := by have := eq_of_beq hxe; omega
        subst this
        exact cut.2 hy
      · intro h2
        refine ⟨(d.size : Int), ?_, by simp⟩
        rw [e0, List.mem_map]
        exact ⟨d.size, cut.1 h2, rfl⟩
    have eN : (n == ((recsOf (d ++ p)).length : Int)) = decide (((recsOf (d ++ p)).length : Int) = n) := by
      by_cases h3 : ((recsOf (d ++ p)).length : Int) = n
      · rw [decide_eq_true h3, h3]; simp
      · rw [decide_eq_false h3]; simp; exact fun e => h3 e.symm
    have eL : decide ((endOf (d ++ p) : Int) = ((d ++ p).size : Int)) = decide (endOf (d ++ p) = d.size + p.size) := decide_eq_decide.2 (by rw [hz]; omega)
    rw [Bool.false_or, eAny, eN, eL, Bool.and_left_comm] at loop
    refine Ev.congr (f := fun q => (impl_records.f q (d ++ p)).bind fun bt256 => (impl_Log_read.l0 q (d ++ p) bt256.1 bt256.2 false bt256.2 (bt256.2.length : Int) 0 d p n)) (fun q => ?_) (Ev.bind (recs_ev (d ++ p) (by omega)) loop)
    unfold impl_Log_read.f
    rw [w64 (by omega), if_neg (by omega), if_pos (by omega)]
  · rw [decide_eq_false h, Bool.false_and, if_neg h]
    refine Ev.congr (fun q => ?_) (Ev.now _)
    unfold impl_Log_read.f
    rw [w64 (by omega), if_pos (by omega)]
theorem implValid_ev (d p : ByteArray) (n : Int) (hd : d.size ≤ 140737488351232) (hp : p.size ≤ 140737488351232) : Ev (fun q => impl_IsValidLog.f q d p n) (validB d p n) :=
  Ev.bind (read_ev d p n hd hp) (Ev.now _)
theorem obs {α β : Type} (a : α) (f : α → Option β) : (some a).bind f = f a := (Option.bind_some ..).trans (Eq.refl _)
theorem szLog_some (d p : ByteArray) (n z : Int) : ∃ y : Int, laws_szLog.f d p n z = some y := by
  unfold laws_szLog.f
  split
  · exact ⟨_, rfl⟩
  · split <;> exact ⟨_, rfl⟩
theorem validB_small {d p : ByteArray} {n : Int} (h : validB d p n = true) : d.size + p.size ≤ 30000 := by
  unfold validB at h
  rw [Bool.and_eq_true] at h
  exact of_decide_eq_true h.1
theorem validB_len {d p : ByteArray} {n : Int} (h : validB d p n = true) : ((recsOf (d ++ p)).length : Int) = n := by
  unfold validB at h
  simp only [Bool.and_eq_true, decide_eq_true_eq] at h
  exact h.2.2.2
theorem eqLog_same (d p : ByteArray) (n : Int) : laws_eqLog.f d p n d p n = some true := by
  unfold laws_eqLog.f
  simp
end Go.Proofs.YtccbpfconceoeaaDoor.Pure
