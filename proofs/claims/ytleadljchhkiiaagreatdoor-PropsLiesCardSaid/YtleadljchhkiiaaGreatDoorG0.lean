/- The listed variables hold what they are listed with: tables of numbers. -/
import Derived.Test.YtleadljchhkiiaaGreatDoorAb19
import Derived.MakeChecks
import Derived.OpenShut
import Derived.ProofKit
set_option linter.unusedSimpArgs false
set_option linter.unusedVariables false
namespace Go.Ab
open Go Go.RowKit
theorem laidVars_mem {P : Program} {w : World} : ∀ {l : List (String × DataW Unit)} {ps : List MemPlace}, DataW.LaidVars P w l ps → ∀ x ∈ l,
    ∃ g t cs fuel p, P.globalNamed x.1 = some g ∧ (P.globals[g]?).map (·.type) = some t ∧ w.var? P x.1 = some cs ∧ DataW.trod (fun _ => ()) P w 0 (fun _ => true) false fuel t cs.toList = some (x.2, p)
  | [], _, _, _, h => by cases h
  | (n, d) :: r, ps, h, x, hx => by
    obtain ⟨g, t, cs, fuel, p, q, h1, h2, h3, h4, h5, _⟩ := h
    rcases List.mem_cons.1 hx with rfl | hx
    · exact ⟨g, t, cs, fuel, p, h1, h2, h3, h4⟩
    · exact laidVars_mem h5 x hx
/-- A table of small numbers. -/
theorem glob_ints {P : Program} {W : World} {l : List (String × DataW Unit)} (h : laidMet P l W) {k : IntKind} {ns : List Int} {name : String} (hx : (name, DataW.agg (ns.map fun n => .lit (.int k n))) ∈ l)
    {g : Nat} {t e : TypeId} {N : Nat} (hg : P.globalNamed name = some g) (ht : (P.globals[g]?).map (·.type) = some t) (hu : P.underlying t = some (.array N e)) (he : P.underlying e = some (.int k)) (hc : P.cellsOf e = 1) (hN : ns.length = N) :
    RepC W (fun _ => False) (.cptr (ns.map (.int k))) (.pointer (some ⟨g, 0, none⟩)) := by
  obtain ⟨ps, hv, _, _⟩ := h
  obtain ⟨g', t', cs, fuel, p, h1, h2, h3, h4⟩ := laidVars_mem hv _ hx
  obtain rfl := Option.some.inj (hg.symm.trans h1)
  obtain rfl := Option.some.inj (ht.symm.trans h2)
  obtain ⟨xs, m, _, ex, _, hl, hel⟩ := DataW.trod_array hu h4
  have key : ∀ r, r < N → cs.toList[r]? = some (.int k (ns.getD r 0)) := by
    intro r hr
    have hE := hel r hr
    rw [hc, Nat.mul_one, List.getElem?_eq_getElem (by omega)] at hE
    obtain ⟨z, e1, e2, _⟩ := DataW.trod_int he hE
    have e3 : (xs.map (·.1)) = ns.map fun n => .lit (.int k n) := (DataW.agg.inj (Prod.mk.inj ex).1).symm
    have e4 : (xs.map (·.1))[r]? = (ns.map fun n => (DataW.lit (.int k n) : DataW Unit))[r]? := by rw [e3]
    rw [List.getElem?_map, List.getElem?_map, List.getElem?_eq_getElem (by omega : r < xs.length), List.getElem?_eq_getElem (by omega : r < ns.length), e2] at e4
    have hz : z = ns.getD r 0 := by
      simp only [Option.map_some, Option.some.injEq, DataW.lit.injEq, Lit.int.injEq, true_and] at e4
      rw [e4, List.getD, List.getElem?_eq_getElem (by omega : r < ns.length)]; rfl
    rw [← hz]
    have h0 : ((cs.toList.drop r).take 1)[0]? = some (.int k z) := by rw [e1]; rfl
    simpa using h0
  have hrep : ∀ l : List Int, RepCL W (fun _ => False) (l.map (.int k)) (l.map (.int k)) := by
    intro l
    induction l with
    | nil => exact .nil
    | cons x r ih => exact .cons (.int _ _) ih
  refine .cptr (vs := ns.map (.int k)) (hrep ns) ⟨fun _ => rfl, fun j v hj => ⟨id, ?_⟩⟩
  rw [List.getElem?_map] at hj
  cases hn : ns[j]? with
  | none => rw [hn] at hj; cases hj
  | some x =>
    rw [hn] at hj
    simp only [Option.map_some, Option.some.injEq] at hj
    subst hj
    have hjl : j < ns.length := (List.getElem?_eq_some_iff.1 hn).1
    have h5 := World.var?_cell hg h3 j
    have h6 := key j (by omega)
    rw [List.getD_eq_getElem?_getD, hn] at h6
    simp only [Nat.zero_add]
    rw [h5]
    simpa using h6
end Go.Ab
