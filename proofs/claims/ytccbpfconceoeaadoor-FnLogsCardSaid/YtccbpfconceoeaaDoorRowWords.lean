/- Words for the rows: a listed table read out of the row's condition; the size of a string that stands in a struct by value. Plain: no program. -/
import Derived.LaidLaws
import Derived.Lib.LaidTab
import Derived.SizedLaws
namespace Go.Proofs.YtccbpfconceoeaaDoor.P
open Go
theorem tab_of_vars {P : Program} {W : World} {name : String} {k : IntKind} {zs : List Int} {g : Nat} {t e : TypeId} {n : Nat}
    (hg : P.globalNamed name = some g) (hty : (P.globals[g]?).map (·.type) = some t) (ht : P.underlying t = some (.array n e)) (he : P.underlying e = some (.int k)) (hce : P.cellsOf e = 1) (hct : P.cellsOf t = n) :
    ∀ {laid : List (String × DataW Unit)} {ps : List MemPlace}, DataW.LaidVars P W laid ps → ∀ {j : Nat}, laid[j]? = some (name, Lib.tabData k zs) → Lib.TabIs P W name k zs
  | [], _, _, _, hm => by simp at hm
  | (n', d) :: r, ps, h, j, hm => by
    obtain ⟨g', t', cs, fuel, p, q, hg', ht', hv, hd, hr, _⟩ := h
    cases j with
    | zero =>
      simp only [List.getElem?_cons_zero, Option.some.injEq, Prod.mk.injEq] at hm
      obtain ⟨rfl, rfl⟩ := hm
      obtain rfl := Option.some.inj (hg.symm.trans hg')
      obtain rfl := Option.some.inj (hty.symm.trans ht')
      unfold Lib.TabIs
      rw [hv, ← Lib.cells_of_tab ht he hce hct hd]
    | succ j => exact tab_of_vars hg hty ht he hce hct hr (by simpa using hm)
theorem tab_of_laid {P : Program} {W : World} {name : String} {k : IntKind} {zs : List Int} {g : Nat} {t e : TypeId} {n : Nat} {laid : List (String × DataW Unit)} {j : Nat}
    (hg : P.globalNamed name = some g) (hty : (P.globals[g]?).map (·.type) = some t) (ht : P.underlying t = some (.array n e)) (he : P.underlying e = some (.int k)) (hce : P.cellsOf e = 1) (hct : P.cellsOf t = n)
    (h : laidMet P laid W) (hm : laid[j]? = some (name, Lib.tabData k zs)) : Lib.TabIs P W name k zs := by
  obtain ⟨ps, hv, _⟩ := h
  exact tab_of_vars hg hty ht he hce hct hv hm
theorem sized_part {H : Type} {P : Program} {ts : List TypeId} {ds : List (DataW H)} (h : (DataW.weightsEach P ts ds).all (· ≤ reachBytes) = true) {j i : Nat} {t t' : TypeId} {fs : Array Field} {parts : List (DataW H)} {bytes : List UInt8}
    (hs : P.underlying t = some (.struct fs)) (ht : ts[j]? = some t) (hd : ds[j]? = some (.agg parts)) (hi : (fs.toList.map (·.type))[i]? = some t') (hp : parts[i]? = some (.lit (.string bytes))) : bytes.length ≤ 140737488351232 := by
  have h1 : bytes.length ∈ DataW.weights P t (.agg parts) := by
    simp only [DataW.weights, hs]
    exact DataW.weights_mem_each hi hp _ (by simp [DataW.weights])
  exact of_decide_eq_true (List.all_eq_true.1 h _ (DataW.weights_mem_each ht hd _ h1))
end Go.Proofs.YtccbpfconceoeaaDoor.P
