/- The listed variables hold what they are listed with: tables of numbers. How a law's card is closed, once its call is known to answer true: with tables that the program reads. -/
import Derived.Test.YtoggbjfjmbjegaaGreatDoorAb19
import Derived.MakeChecks
import Derived.OpenShut
import Derived.ProofKit
import Derived.Test.YtoggbjfjmbjegaaGreatDoorTie
import Derived.Test.YtoggbjfjmbjegaaGreatDoorCards
import Derived.Stop.Joined
import Derived.JoinedCond
import Derived.LaidLaws
import Derived.LaidMore
import Derived.Lay
set_option linter.unusedSimpArgs false
set_option linter.unusedVariables false
section
namespace Go.Ab
open Go Go.RowKit
theorem laidVars_mem {P : Program} {w : World} : ∀ {l : List (String × DataW Unit)} {ps : List MemPlace}, DataW.LaidVars P w l ps → ∀ x ∈ l,
    ∃ g t cs fuel p, P.globalNamed x.1 = some g ∧ (P.globals[g]?).map (·.type) = some t ∧ w.var? P x.1 = some cs ∧ DataW.trod (fun _ => ()) P w 0 (fun _ => true) false fuel t cs.toList = some (x.2, p)
  | [], _, _, _, h => by cases h
  | (n, d) :: r, ps, h, x, hx => by
    obtain ⟨g, t, cs, fuel, p, q, h1, h2, h3, h4, h5, _⟩ := h
    rcases List.mem_cons.1 hx with rfl | hx
    · exact ⟨g, t, cs, fuel, p, h1, h2, h3, h4⟩
    · exact laidVars_mem h5 x hx
theorem glob_ints {P : Program} {W : World} {l : List (String × DataW Unit)} (h : laidMet P l W) {k : IntKind} {ns : List Int} {name : String} (hx : (name, DataW.agg (ns.map fun n => .lit (.int k n))) ∈ l)
    {g : Nat} {t e : TypeId} {N : Nat} (hg : P.globalNamed name = some g) (ht : (P.globals[g]?).map (·.type) = some t) (hu : P.underlying t = some (.array N e)) (he : P.underlying e = some (.int k)) (hc : P.cellsOf e = 1) (hN : ns.length = N) :
    RepC W (fun _ => False) (.cptr (ns.map (.int k))) (.pointer (some ⟨g, 0, none⟩)) := by
  obtain ⟨ps, hv, _, _⟩ := h
  obtain ⟨g', t', cs, fuel, p, h1, h2, h3, h4⟩ := laidVars_mem hv _ hx
  obtain rfl := Option.some.inj (hg.symm.trans h1)
  obtain rfl := Option.some.inj (ht.symm.trans h2)
  obtain ⟨xs, m, _, ex, _, hl, hel⟩ := DataW.trod_array hu h4
  have key : ∀ r, r < N → cs.toList[r]? = some (.int k (ns.getD r 0)) := by
    intro r hr
    have hE := hel r hr
    rw [hc, Nat.mul_one, List.getElem?_eq_getElem (by omega)] at hE
    obtain ⟨z, e1, e2, _⟩ := DataW.trod_int he hE
    have e3 : (xs.map (·.1)) = ns.map fun n => .lit (.int k n) := (DataW.agg.inj (Prod.mk.inj ex).1).symm
    have e4 : (xs.map (·.1))[r]? = (ns.map fun n => (DataW.lit (.int k n) : DataW Unit))[r]? := by rw [e3]
    rw [List.getElem?_map, List.getElem?_map, List.getElem?_eq_getElem (by omega : r < xs.length), List.getElem?_eq_getElem (by omega : r < ns.length), e2] at e4
    have hz : z = ns.getD r 0 := by
      simp only [Option.map_some, Option.some.injEq, DataW.lit.injEq, Lit.int.injEq, true_and] at e4
      rw [e4, List.getD, List.getElem?_eq_getElem (by omega : r < ns.length)]; rfl
    rw [← hz]
    have h0 : ((cs.toList.drop r).take 1)[0]? = some (.int k z) := by rw [e1]; rfl
    simpa using h0
  have hrep : ∀ l : List Int, RepCL W (fun _ => False) (l.map (.int k)) (l.map (.int k)) := by
    intro l
    induction l with
    | nil => exact .nil
    | cons x r ih => exact .cons (.int _ _) ih
  refine .cptr (vs := ns.map (.int k)) (hrep ns) ⟨fun _ => rfl, fun j v hj => ⟨id, ?_⟩⟩
  rw [List.getElem?_map] at hj
  cases hn : ns[j]? with
  | none => rw [hn] at hj; cases hj
  | some x =>
    rw [hn] at hj
    simp only [Option.map_some, Option.some.injEq] at hj
    subst hj
    have hjl : j < ns.length := (List.getElem?_eq_some_iff.1 hn).1
    have h5 := World.var?_cell hg h3 j
    have h6 := key j (by omega)
    rw [List.getD_eq_getElem?_getD, hn] at h6
    simp only [Nat.zero_add]
    rw [h5]
    simpa using h6
end Go.Ab
end

section
namespace Go.Proofs.YtoggbjfjmbjegaaGreatDoor
open Go Go.Ab Go.RowKit
theorem seatOwn : ownKnob Tryz.prog.godebug = none := by kernel_rfl
theorem seatLaidOut : laidOutB Tryz.prog = true := by kernel_rfl

section
variable {H : Type} {enc : TypeId × Value → H}
theorem uptoBulk_pos : ∀ d : DataW H, 1 ≤ Rows.uptoBulk d
  | .lit (.string _) => by simp [Rows.uptoBulk]
  | .lit (.bool _) => by simp [Rows.uptoBulk]
  | .lit (.int _ _) => by simp [Rows.uptoBulk]
  | .lit (.float _ _) => by simp [Rows.uptoBulk]
  | .lit .nil => by simp [Rows.uptoBulk]
  | .nil => by simp [Rows.uptoBulk]
  | .ptr _ => by simp [Rows.uptoBulk]
  | .slice _ _ => by simp [Rows.uptoBulk]
  | .agg _ => by simp [Rows.uptoBulk]
  | .iface _ _ => by simp [Rows.uptoBulk]
  | .map _ => by simp [Rows.uptoBulk]
  | .held _ => by simp [Rows.uptoBulk]
theorem uptoBulkAll_length : ∀ ds : List (DataW H), ds.length ≤ Rows.uptoBulkAll ds
  | [] => by simp
  | d :: r => by have := uptoBulk_pos d; have := uptoBulkAll_length r; simp [Rows.uptoBulkAll]; omega
theorem uptoBulk_slice {es : Nat} {t : TT} {d : DataW H} {els : List (List AV)} (h : Ty (.slice es t) d [.slice els]) : els.length ≤ Rows.uptoBulk d := by
  cases h with
  | nil => simp
  | slice h1 h2 h3 h4 =>
    rename_i ds sp
    have := uptoBulkAll_length ds
    simp only [Rows.uptoBulk]
    omega

theorem uptoSmall_two {d d' : DataW H} (h : Rows.uptoSmall H ([d, d'] ++ []) = true) : Rows.uptoBulk d ≤ 1048576 ∧ Rows.uptoBulk d' ≤ 1048576 := by
  simp only [Rows.uptoSmall, List.append_nil, Rows.uptoBulkAll, decide_eq_true_eq] at h
  omega

abbrev laidAll : List (String × DataW Unit) := [("math/bits.deBruijn64tab", Rows.laid_math_bits_deBruijn64tab), ("unicode/utf8.acceptRanges", Rows.laid_unicode_utf8_acceptRanges), ("unicode.White_Space", Rows.laid_unicode_White_Space), ("strings.asciiSpace", Rows.laid_strings_asciiSpace), ("unicode.CaseRanges", Rows.laid_unicode_CaseRanges), ("unicode/utf8.first", Rows.laid_unicode_utf8_first)]
theorem deB_is : Rows.laid_math_bits_deBruijn64tab (H := Unit) = .agg (deBruijnN.map fun n => .lit (.int .u8 n)) := by rfl
def asciiN : List Int := (List.range 256).map fun i => if i = 9 ∨ i = 10 ∨ i = 11 ∨ i = 12 ∨ i = 13 ∨ i = 32 then 1 else 0
theorem asciiA_is : asciiA = asciiN.map (.int .u8) := by kernel_rfl
theorem asc_is : Rows.laid_strings_asciiSpace (H := Unit) = .agg (asciiN.map fun n => .lit (.int .u8 n)) := by kernel_rfl
theorem glob_ok {W : World} (h : laidMetH Tryz.prog laidAll W) : GlobOk W (fun _ => False) := by
  rw [MakeChecks.laidMetH_plain _ _ _ (by kernel_rfl)] at h
  intro g cs hg
  have h1 : (("math/bits.deBruijn64tab", DataW.agg (deBruijnN.map fun n => .lit (.int .u8 n))) : String × DataW Unit) ∈ laidAll := by rw [← deB_is]; simp [laidAll]
  have h2 : (("strings.asciiSpace", DataW.agg (asciiN.map fun n => .lit (.int .u8 n))) : String × DataW Unit) ∈ laidAll := by rw [← asc_is]; simp [laidAll]
  unfold gtab at hg
  simp only [List.lookup] at hg
  split at hg
  · rename_i e
    cases hg
    obtain rfl : g = 0 := by simpa using e
    exact glob_ints (t := 327) (e := 5) (N := 64) h h1 (by kernel_rfl) (by kernel_rfl) (by kernel_rfl) (by kernel_rfl) (by kernel_rfl) (by kernel_rfl)
  · split at hg
    · rename_i e
      cases hg
      obtain rfl : g = 1 := by simpa using e
      rw [asciiA_is]
      exact glob_ints (t := 341) (e := 5) (N := 256) h h2 (by kernel_rfl) (by kernel_rfl) (by kernel_rfl) (by kernel_rfl) (by kernel_rfl) (by kernel_rfl)
    · cases hg
theorem law_returns {C : Checked} {os : Os} {f : FuncId} {fn : Func} {s : OpenSpec} {c : OpenClaim} {F : Stop.Interp} {tb : TypeId} {K : World → List (DataW H) → List (DataW H) → Prop}
    (hpre : ∀ w args, c.pre enc C.prog fn s w args → ∃ ds gs before, DataW.Whole enc C.prog fn.params.toList s.vars c.apart w args.toList ds gs before ∧ K w ds gs)
    (hK : ∀ w tape i ds gs, K (World.forCall w tape i).memory ds gs → K (World.forCall w tape i) ds gs)
    (own : ownKnob C.prog.godebug = none) (started : os.Started) (noInit : C.prog.inits.idxOf? f = none) (hfn : C.prog.funcs[f]? = some fn)
    (hl : laidOutB C.prog = true) (hr : (fn.params.toList.all fun t => C.prog.readableRec t && decide (t < C.prog.types.size)) = true) (hrt : fn.resultTypes = #[tb]) (hb : C.prog.underlying tb = some .bool) (hv : s.vars = [])
    (witness : ∃ (w : World) (tape : Tape) (i : Input), w.os = os ∧ (w.forCall tape i).Shaped C.prog ∧ i.vars = [] ∧ Input.okWide C.prog (w.forCall tape i) .any w.heap.size f i ∧
      c.pre enc C.prog fn s (w.forCall tape i).memory i.args ∧ ({} : Assume).holds C.prog (lone (Frame.enter C.prog f i.args .normal) [] (w.forCall tape i)))
    (contract : ∀ (W : World) (base : Nat) (args : Array Value) (ds gs : List (DataW H)) (before : List MemPlace), (∀ (j : Nat) t v, fn.params[j]? = some t → args[j]? = some v → Value.okWide C.prog W .any base t v) → DataW.Whole enc C.prog fn.params.toList s.vars c.apart W args.toList ds gs before → K W ds gs →
      s.fn F H (ds ++ gs) = { results := [.lit (.bool true)], args := ds } ∧ Calls C.prog f args W fun e W' => e = .returned (.bool true) ∧ Below W.heap.size W W') :
    ReturnsInHanded {} C os f .any (c.pre enc C.prog fn s) ((s.at F).post enc C.prog fn c.apart c.fresh c.handsOn c.again) := by
  refine returnsInHanded_of_calls own started noInit witness ?_
  intro w tape i _ _ _ hok hp _
  obtain ⟨_, _, _, fn', hfn', _, _, _, _, hval⟩ := hok
  have e : fn' = fn := Option.some.inj (hfn'.symm.trans hfn)
  subst e
  obtain ⟨ds, gs, before, hw, hk⟩ := hpre _ _ hp
  have hw' := DataW.Whole.of_heap (w' := w.forCall tape i) (by rfl) hw
  obtain ⟨h1, h2⟩ := contract (w.forCall tape i) w.heap.size i.args ds gs before hval hw' (hK _ _ _ _ _ hk)
  refine h2.mono fun e W' ⟨he, hB⟩ => ?_
  subst he
  exact ChangeSpec.post_blind (post_true hl hr hrt hb hv h1 hw' hB)

theorem upto_pre {P : Program} (hP : P = Tryz.prog) {fn : Func} {s : ChangeSpec} {c : OpenClaim} {x : String × DataW Unit} {r : List (String × DataW Unit)} (hlaid : c.laid = x :: r) (hall : x :: r = laidAll) {w : World} {args : Array Value} (h : c.pre enc P fn (Rows.OpenSpec.upto s) w args) :
    ∃ ds gs before, DataW.Whole enc P fn.params.toList s.vars c.apart w args.toList ds gs before ∧ (GlobOk w (fun _ => False) ∧ Rows.uptoSmall H (ds ++ gs) = true ∧ (DataW.weightsEach P (fn.params.toList ++ (Rows.OpenSpec.upto s).bare.plain.varTypes P) (ds ++ gs)).all (· ≤ reachBytes) = true) := by
  obtain ⟨h1, hz⟩ := h
  unfold OpenClaim.preLaid at h1
  rw [hlaid] at h1
  obtain ⟨⟨ds, gs, before, h2, _, h3⟩, h4⟩ := h1
  exact ⟨ds, gs, before, h2, glob_ok (by rw [← hP, ← hall]; exact h4), h3, hz.weights h2⟩
theorem all_pre {P : Program} (hP : P = Tryz.prog) {fn : Func} {s : ChangeSpec} {c : OpenClaim} {x : String × DataW Unit} {r : List (String × DataW Unit)} (hlaid : c.laid = x :: r) (hall : x :: r = laidAll) {w : World} {args : Array Value} (h : c.pre enc P fn (OpenSpec.ofChange s) w args) :
    ∃ ds gs before, DataW.Whole enc P fn.params.toList s.vars c.apart w args.toList ds gs before ∧ (GlobOk w (fun _ => False) ∧ True ∧ (DataW.weightsEach P (fn.params.toList ++ (OpenSpec.ofChange s).bare.plain.varTypes P) (ds ++ gs)).all (· ≤ reachBytes) = true) := by
  obtain ⟨h1, hz⟩ := h
  unfold OpenClaim.preLaid at h1
  rw [hlaid] at h1
  obtain ⟨⟨ds, gs, before, h2, _⟩, h4⟩ := h1
  exact ⟨ds, gs, before, h2, glob_ok (by rw [← hP, ← hall]; exact h4), trivial, hz.weights h2⟩

theorem weights_two {P : Program} {ts : List TypeId} {t0 t1 : TypeId} {d0 d1 : DataW H} (h : (DataW.weightsEach P ([t0, t1] ++ ts) ([d0, d1] ++ [])).all (· ≤ reachBytes) = true) : (∀ m ∈ d0.weights P t0, m ≤ reachBytes) ∧ ∀ m ∈ d1.weights P t1, m ≤ reachBytes := by
  simp only [List.cons_append, List.append_nil, DataW.weightsEach, List.all_eq_true, List.mem_append, decide_eq_true_eq] at h
  exact ⟨fun m hm => h m (.inl hm), fun m hm => h m (.inr (.inl hm))⟩

theorem law_witness {P : Program} {C : Checked} (hC : C.prog = P) {os : Os} {f : FuncId} {fn : Func} {s : OpenSpec} {c : OpenClaim} {x : String × DataW Unit} {r : List (String × DataW Unit)} (hlaid : c.laid = x :: r) (hdom : c.domain = []) (args : Array Value) (fuel : Nat) {y : List (DataW H) × List (DataW H) × List MemPlace}
    (hsh : (World.laidAll P os (x :: r)).forCall (fun _ _ => 0) ⟨#[], args, []⟩ |>.Shaped P)
    (hok : Input.okWideB P ((World.laidAll P os (x :: r)).forCall (fun _ _ => 0) ⟨#[], args, []⟩) f ⟨#[], args, []⟩ = true)
    (hx : DataW.whole enc P ((World.laidAll P os (x :: r)).forCall (fun _ _ => 0) ⟨#[], args, []⟩).memory fn.params.toList s.vars c.apart args.toList fuel = some y)
    (hk : ∀ k, s.cond = some k → k H (y.1 ++ y.2.1) = true)
    (hsz : s.bare.sizedB enc P fn c.apart ((World.laidAll P os (x :: r)).forCall (fun _ _ => 0) ⟨#[], args, []⟩).memory args fuel = true)
    (hm : laidMetH P (x :: r) ((World.laidAll P os (x :: r)).forCall (fun _ _ => 0) ⟨#[], args, []⟩).memory) :
    ∃ (w : World) (tape : Tape) (i : Input), w.os = os ∧ (w.forCall tape i).Shaped C.prog ∧ i.vars = [] ∧ Input.okWide C.prog (w.forCall tape i) .any w.heap.size f i ∧
      c.pre enc C.prog fn s (w.forCall tape i).memory i.args ∧ ({} : Assume).holds C.prog (lone (Frame.enter C.prog f i.args .normal) [] (w.forCall tape i)) := by
  subst hC
  refine ⟨World.laidAll C.prog os (x :: r), fun _ _ => 0, ⟨#[], args, []⟩, World.laidAll_os _ _ _, hsh, (Input.okWide_of_okWideB (base := 0) hok).1, (Input.okWide_of_okWideB hok).2, ⟨?_, sizedMet_of_sizedB hsz⟩, ?_⟩
  · unfold OpenClaim.preLaid
    rw [hlaid]
    refine ⟨?_, hm⟩
    unfold OpenSpec.pre
    rw [hdom]
    cases hc : s.cond with
    | none => exact ⟨y.1, y.2.1, y.2.2, DataW.Whole_of_whole hx, rfl⟩
    | some k => exact ⟨y.1, y.2.1, y.2.2, DataW.Whole_of_whole hx, rfl, hk k hc⟩
  · simp only [Assume.holds]
    exact ⟨by simp, by simp, fun _ => Modest.zero, by simp, by simp⟩

theorem seatGoes : Tryz.prog.funcs.any Func.goes = false := by kernel_rfl
theorem glob_call {w : World} {tape : Tape} {i : Input} (h : GlobOk (w.forCall tape i).memory (fun _ => False)) : GlobOk (w.forCall tape i) (fun _ => False) := GlobOk.mono (w := (w.forCall tape i).memory) (w' := w.forCall tape i) (own := fun _ => False) (fun _ _ _ h1 h2 => ⟨h1, h2⟩) h
theorem goesBy_none {P : Program} (h : P.funcs.any Func.goes = false) (c : OpenClaim) : false = c.goesBy P := by
  have h0 : ∀ (g : FuncId) fn, P.funcs[g]? = some fn → fn.goes = false := by
    intro g fn hg
    rw [Array.any_eq_false] at h
    obtain ⟨hlt, he⟩ := Array.getElem?_eq_some_iff.1 hg
    rw [← he]
    simpa using h g hlt
  have hg : ∀ f, P.goes f = false := by
    intro f
    unfold Program.goes
    rw [h, Bool.and_false, Bool.or_false, List.any_eq_false]
    intro g _
    cases hq : P.funcs[g]? with
    | none => simp
    | some fn => simp [h0 g fn hq]
  unfold OpenClaim.goesBy Program.goesAt Program.goesFrom
  symm
  rw [Bool.or_eq_false_iff]
  constructor
  · cases P.funcNamed c.func with
    | none => rfl
    | some f => simp [hg]
  · split
    · rfl
    · rw [List.any_eq_false]; intro g _; simp [hg]
theorem calls_of_acalls {P : Program} {f : FuncId} {args : List AV} (h : ACalls P f args (.bool true)) {W : World} {vs : List Value} (hG : GlobOk W (fun _ => False)) (hr : RepCL W (fun _ => False) args vs) :
    Calls P f vs.toArray W fun e W' => e = .returned (.bool true) ∧ Below W.heap.size W W' := by
  refine (h.2 W (fun _ => False) vs (fun _ h => h.elim) hG hr).mono fun e W' ⟨v, he, hv, hB⟩ => ?_
  cases hv
  exact ⟨he, hB⟩
end
end Go.Proofs.YtoggbjfjmbjegaaGreatDoor
end
