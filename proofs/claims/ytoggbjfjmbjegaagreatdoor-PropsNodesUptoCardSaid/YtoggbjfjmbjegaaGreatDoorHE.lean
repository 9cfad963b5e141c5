/- The domain of a node without kids: the program's and the document's are one. PropsNodes: the law's call answers true. -/
import Derived.Test.YtoggbjfjmbjegaaGreatDoorHD
import Derived.Test.YtoggbjfjmbjegaaGreatDoorX7
set_option linter.unusedSimpArgs false
set_option linter.unusedVariables false
set_option linter.unusedSimpArgs false
set_option linter.unusedVariables false
namespace Go.Proofs.YtoggbjfjmbjegaaGreatDoor
open Go Go.Ab
theorem kinds0_c : ACalls Tryz.prog 39 [.slice [[.slice []]]] (.slice [[.nils]]) := evalJ (L := 300) (n := 60) knownJ_sound (by kernel_rfl)
theorem kinds0_r : ACalls Tryz.prog 11 [.slice [[.slice []]]] (.slice [[.nils]]) := evalJ (L := 300) (n := 60) knownJ_sound (by kernel_rfl)
theorem and0_c : ACalls Tryz.prog 16 [.nils, .agg (nodeE 23 .nils), .slice [[.slice []]]] (dA ⟨3, false, false, true, 1, 1⟩) := evalJ (L := 300) (n := 60) knownJ_sound (by kernel_rfl)
theorem and0_r : ACalls Tryz.prog 12 [.nils, .agg (nodeE 23 .nils), .slice [[.slice []]]] (dA ⟨3, false, false, true, 1, 1⟩) := evalJ (L := 300) (n := 60) knownJ_sound (by kernel_rfl)
theorem or0_c : ACalls Tryz.prog 16 [.nils, .agg (nodeE 24 .nils), .slice [[.slice []]]] (dA ⟨3, false, false, true, 0, 0⟩) := evalJ (L := 300) (n := 60) knownJ_sound (by kernel_rfl)
theorem or0_r : ACalls Tryz.prog 12 [.nils, .agg (nodeE 24 .nils), .slice [[.slice []]]] (dA ⟨3, false, false, true, 0, 0⟩) := evalJ (L := 300) (n := 60) knownJ_sound (by kernel_rfl)
theorem dom_none (op : Int) (h0 : 0 ≤ op) (hk : (kindT op []).2 = 0) :
    ∃ r : Dom, ACalls Tryz.prog 16 [.nils, .agg (nodeE op .nils), rows1 []] (dA r) ∧ ACalls Tryz.prog 12 [.nils, .agg (nodeE op .nils), rows1 []] (dA r) := by
  have ho : op = 0 ∨ op = 23 ∨ op = 24 := by
    by_cases hf : fmtP op 0 = true
    · have h1 : op = 0 ∨ op = 2 ∨ op = 4 ∨ op = 5 ∨ op = 6 ∨ op = 7 ∨ op = 8 ∨ op = 9 ∨ op = 10 ∨ op = 11 ∨ op = 12 ∨ op = 13 ∨ op = 14 ∨ op = 15 ∨ op = 16 ∨ op = 17 ∨ op = 18 ∨ op = 19 ∨ op = 20 ∨ op = 21 ∨ op = 22 ∨ op = 23 ∨ op = 24 ∨ op = 25 ∨ op = 26 := by
        simp only [fmtP, decide_true, Bool.and_true, Bool.or_eq_true, Bool.and_eq_true, decide_eq_true_eq] at hf
        omega
      rcases h1 with rfl | rfl | rfl | rfl | rfl | rfl | rfl | rfl | rfl | rfl | rfl | rfl | rfl | rfl | rfl | rfl | rfl | rfl | rfl | rfl | rfl | rfl | rfl | rfl | rfl
      all_goals first
        | omega
        | exact absurd hk (by decide)
    · exfalso
      unfold kindT at hk
      rw [if_neg (by simp), if_neg (by simpa using hf)] at hk
      simp at hk
  rcases ho with rfl | rfl | rfl
  · exact ⟨_, facts_Domain [] 0 .nils _ (.inr rfl) dom_null, ref_of_null⟩
  · exact ⟨_, and0_c, and0_r⟩
  · exact ⟨_, or0_c, or0_r⟩
@[reducible] def kxZ (zs : Zs) : AV := if zs = [] then .nils else .slice (zs.map kdZ)
theorem ksP_eq (zs : Zs) : ksP (psOf zs) = ksZ zs := by
  unfold ksP ksZ psOf
  by_cases h : zs = []
  · subst h; rfl
  · rw [if_neg (by simpa using h), if_neg h, List.map_map]; rfl
theorem kwP_eq (zs : Zs) : kwP (psOf zs) = kxZ zs := by
  unfold kwP kxZ psOf
  by_cases h : zs = []
  · subst h; rfl
  · rw [if_neg (by simpa using h), if_neg h, List.map_map]; rfl
theorem bad_eq (ks : List Dom) (hin : ∀ d ∈ ks, d.In) : ks.any badC = ks.any badR := any_congr fun d hd => by
  simp only [badC, badR, okD_eq d (hin d hd).1]
theorem good_ok {ks : List Dom} (hin : ∀ d ∈ ks, d.In) (h : ks.any badR = false) : ∀ d ∈ ks, d.Ok := by
  intro d hd
  refine ⟨?_, hin d hd⟩
  rw [List.any_eq_false] at h
  have := h d hd
  simp only [badR, Bool.or_eq_true, not_or, Bool.not_eq_true, Bool.not_eq_false'] at this
  exact this.1
theorem kindT_some {op : Int} {ks : List Int} (hne : ks ≠ []) (h : (kindT op ks).2 = 0) : (4 ≤ op ∧ op ≤ 26) ∧ ∃ k, refKind op ks = (k, 0) := by
  unfold kindT at h
  split at h
  · simp at h
  · split at h
    · rename_i hf
      have ho : 4 ≤ op ∧ op ≤ 26 := by
        have hl : ¬ ks.length = 0 := fun e => hne (List.eq_nil_of_length_eq_zero e)
        simpa [fmtP, hl, hne] using hf
      refine ⟨ho, ?_⟩
      unfold kindX at h
      rw [if_neg (by omega), if_neg (by omega)] at h
      unfold kindE at h
      split at h
      · simp at h
      · split at h
        · rename_i h2
          exact ⟨(refKind op ks).1, by rw [← h2]⟩
        · simp at h
    · simp at h
theorem dom_both (op : Int) (h0 : 0 ≤ op) (ks : List Dom) (hl : ks.length < 2 ^ 40) (hin : ∀ d ∈ ks, d.In) :
    ∃ (d : Dom) (e : Int), ACalls Tryz.prog 6 [.nils, .agg (nodeE op (ksZ (zsOf ks))), rows1 ks] (.tuple [dA d, .int .i64 e]) ∧ ACalls Tryz.prog 5 [.nils, .agg (nodeE op (ksZ (zsOf ks))), rows1 ks] (.tuple [dA d, .int .i64 e]) := by
  have hkz : ∀ σ n, closeV σ n (ksZ (zsOf ks)) = some (ksZ (zsOf ks), []) := by
    intro σ n
    unfold ksZ
    split <;> cases n <;> rfl
  have z1 := zsOf_ok ks
  have z2 : (zsOf ks).length < 2 ^ 40 := by rw [zsOf_len]; exact hl
  have eb := bad_eq ks hin
  have hkc : ACalls Tryz.prog 15 [rows1 ks] (.slice [[kxZ (zsOf ks)]]) := by
    by_cases h : ks = []
    · subst h; exact facts_Kinds [] _ ⟨_, rfl, .inl rfl⟩ kinds0_c
    · have := facts_Kinds ks _ ⟨_, rfl, .inr ⟨_, rfl⟩⟩ (facts_kinds ks hl h)
      rw [← zsOf_kd] at this
      unfold kxZ
      rw [if_neg (fun e => h ((zsOf_nil ks).1 e))]
      exact this
  have hkr : ACalls Tryz.prog 11 [rows1 ks] (.slice [[kxZ (zsOf ks)]]) := by
    by_cases h : ks = []
    · subst h; exact kinds0_r
    · have := ref_Kinds ks hl h
      simp only [kinds1] at this
      rw [← zsOf_kd] at this
      unfold kxZ
      rw [if_neg (fun e => h ((zsOf_nil ks).1 e))]
      exact this
  have hgood : ks.any badR = false → ∀ z ∈ zsOf ks, 0 ≤ z.1.kind ∧ z.1.kind ≤ 3 := by
    intro h z hz
    have hm : z.1 ∈ ks := by rw [← zsOf_fst ks]; exact List.mem_map.2 ⟨z, hz, rfl⟩
    have := good_ok hin h z.1 hm
    exact ⟨this.2.1, (okD_cases this.1 this.2.1).1⟩
  have k1 : ks.any badR = false → ACalls Tryz.prog 14 [.nils, .agg (nodeE op (ksZ (zsOf ks))), .slice [[kxZ (zsOf ks)]]] (.tuple [.int .u8 (kindT op (ks.map (·.kind))).1, .int .i64 (kindT op (ks.map (·.kind))).2]) := by
    intro h
    have := alg_Kind (psOf (zsOf ks)) (psOf_ok z1) (by simpa using hl) op h0 (by
      intro p hp
      obtain ⟨z, hz, rfl⟩ := List.mem_map.1 hp
      exact hgood h z hz) scheme_Valid
    rw [ksP_eq, kwP_eq, show (psOf (zsOf ks)).map (·.1) = ks.map (·.kind) by rw [← zsOf_kind, List.map_map]; rfl] at this
    exact this
  have k2 : ks.any badR = false → ACalls Tryz.prog 10 [.nils, .agg (nodeE op (ksZ (zsOf ks))), .slice [[kxZ (zsOf ks)]]] (.tuple [.int .u8 (kindT op (ks.map (·.kind))).1, .int .i64 (kindT op (ks.map (·.kind))).2]) := by
    intro h
    have := ref_Kind8 (zsOf ks) z1 z2 op h0 (fun z hz => (hgood h z hz).2)
    rw [zsOf_kind] at this
    exact this
  have hdom : ks.any badR = false → (kindT op (ks.map (·.kind))).2 = 0 → ∃ d : Dom, ACalls Tryz.prog 16 [.nils, .agg (nodeE op (ksZ (zsOf ks))), rows1 ks] (dA d) ∧ ACalls Tryz.prog 12 [.nils, .agg (nodeE op (ksZ (zsOf ks))), rows1 ks] (dA d) := by
    intro h hk
    by_cases hn : ks = []
    · subst hn; exact dom_none op h0 hk
    · obtain ⟨ho, k, hr⟩ := kindT_some (by simpa using hn) hk
      have := dom_some ks hn hl (good_ok hin h) op k ho hr
      unfold ksZ
      rw [if_neg (fun e => hn ((zsOf_nil ks).1 e))]
      exact this
  generalize kindT op (ks.map (·.kind)) = ke at *
  obtain ⟨k, e⟩ := ke
  simp only at hdom k1 k2
  by_cases hg : ks.any badR = false ∧ e = 0
  · obtain ⟨d, h1, h2⟩ := hdom hg.1 hg.2
    have q1 := props_Domain ks hl op _ _ hkz k e d (fun _ => ⟨hkc, k1 hg.1, fun _ => h1⟩)
    have q2 := ref_Domain12 ks hl op _ _ hkz k e d (fun _ => ⟨hkr, k2 hg.1, fun _ => h2⟩)
    rw [eb] at q1
    rw [if_pos hg] at q1 q2
    exact ⟨d, _, q1, q2⟩
  · have q1 := props_Domain ks hl op _ _ hkz k e (noneD 0) (fun hb => ⟨hkc, k1 (eb ▸ hb), fun he => absurd ⟨eb ▸ hb, he⟩ hg⟩)
    have q2 := ref_Domain12 ks hl op _ _ hkz k e (noneD 0) (fun hb => ⟨hkr, k2 hb, fun he => absurd ⟨hb, he⟩ hg⟩)
    rw [eb] at q1
    rw [if_neg hg] at q1 q2
    exact ⟨noneD 0, _, q1, q2⟩
-- @enc(Dom.enc, kd, dZ)@
attribute [local go_sem ↓] parts_tt parts_ff parts_tf parts_ft reduceIte
attribute [local go_sem] reduceCtorEq Nat.reduceAdd Nat.reduceSub Nat.reduceLeDiff Nat.reduceEqDiff Nat.reduceMul Nat.reduceLT Nat.reducePow Int.reduceEq Int.reduceLT Int.reduceLE Int.reduceGT Int.reduceGE Int.reduceAdd Int.reduceSub Int.reduceNeg Int.reduceToNat parts_eq learnT aops_nil aops_cons aopsD_nil aopsD_cons stepS stepD gval St.learn skipR St.after putτ applyUpd List.foldl_cons List.foldl_nil pureOp memOp callOf litA closeO closeK List.flatMap_cons List.flatMap_nil Option.map_none decide_false opnd ofConst leaf binA unA lenA indexA indexAddrA fieldAddrA fieldA weak_slice weak_nils weak_str weak_view weak_viewF weak_sliceF weak_ptr weak_cptr weak_rptr weak_sl weak_sl0 weak_any sliceFA_slice sliceFA_str sliceFA_view sliceFA_none sliceFA_some sameO sliceA convertA pickV fillA placeS cellsA setA partA loadM storeM appendM srcEls lookBox lookRow lookMap closeL closeV scalarB scalarL killed buildEls lookupA leafEq eqAll resA resL tupA retA thenA blockA isInt loA hiA foldA maxA minA okSize leafB closedB Res.foot List.getD_cons_zero List.getD_cons_succ List.set_cons_zero List.set_cons_succ List.map_cons List.map_nil List.append_nil List.nil_append List.cons_append List.length_cons List.length_nil List.take_succ_cons List.take_zero List.drop_succ_cons List.drop_zero List.take_nil List.drop_nil List.all_cons List.all_nil List.getElem?_toArray List.getElem?_cons_zero List.getElem?_cons_succ Option.bind_some Option.map_some true_and and_true true_implies ne_eq not_true_eq_false not_false_eq_true Bool.true_eq_false Bool.false_eq_true Bool.not_true Bool.not_false decide_eq_true_eq decide_eq_false_iff_not false_implies implies_true and_self ite_true ite_false cond_true cond_false Option.some.injEq List.reverse_cons List.reverse_nil Bool.and_self Bool.true_and Bool.and_true Bool.false_and Bool.and_false Bool.or_true Bool.true_or Bool.or_false Bool.false_or Bool.not_eq_eq_eq_not Bool.not_not Bool.or_self beq_self_eq_true and_false false_and or_true true_or or_false false_or not_true not_false_iff Decidable.not_not lookT lookR tabT tabR Int.toNat_natCast List.length_map List.map_append List.length_append decide_true decide_false tmod2 List.mem_singleton forall_eq elOk1 elOk3 elOk4 castn0 castn1 castn2 castn3 getD_mid getD_mid_map at_lt at_end mid_lt mid_lt' nat_ge List.size_toArray Array.size_empty Nat.add_zero Nat.zero_add
attribute [local irreducible] ASpec ACalls retA ti EqT
set_option linter.unusedSimpArgs false
set_option maxHeartbeats 4000000
set_option maxRecDepth 100000
set_option linter.unusedVariables false
attribute [local go_sem] ti2 ti3 ti4 ti5 ti9 ti21 ti22 ti23 ti24 ti26 ti27 ti28 ti30 ti33 ti34 ti37 ti41 ti42 ti46 ti52 ti56 ti68 ti69 ti73 ti78 ti86 ti89 ti99 ti117 ti122 ti123 ti124 ti144 ti166 ti173 ti174 ti190 ti191 ti199 ti245 ti247 ti257 ti271 ti288 ti290 ti343
attribute [local go_sem] memS memS0 memT allocB
theorem all8 (i : Int) : (∀ y ∈ [[AV.int .u8 2, .int .u8 0, .int .i64 0, .str ⟨#[]⟩, .int .i64 0, .int .i64 i, .nils, .nils]], elOk 8 y = true) = True := by simp [elOk, leafB]
@[reducible] def lfs (n : Nat) : List (List AV) := (List.range n).map leafE
theorem lfs_succ (n : Nat) : lfs (n + 1) = lfs n ++ [leafE n] := by simp [lfs, List.range_succ]
theorem law_nodes (op : Int) (h0 : 0 ≤ op) (ks : List Dom) (hl : ks.length ≤ 1048576) (hin : ∀ d ∈ ks, d.In) : ACalls Tryz.prog 3 [.int .u8 op, .slice (ks.map Dom.enc)] (.bool true) := by
  obtain ⟨d, e, h1, h2⟩ := dom_both op h0 ks (by omega) hin
  have h3 := ref_Same_self d
  have h4 := law_awake
  have hc := fun i => law_column i
  have ez : ks ≠ [] → ksZ (zsOf ks) = .slice (lfs ks.length) := by
    intro h
    unfold ksZ
    rw [if_neg (fun e => h ((zsOf_nil ks).1 e)), zsOf_leaf]
  clear hin h0
  simp only [dA, Dom.enc, rows1] at h1 h2 h3
  refine acalls_k Tryz.func3 rfl (by kernel_rfl) (congrArg Array.toList Tryz.results3) Tryz.ntmps3 ?_
  intro R hR
  simp only [st0, List.length_cons, List.length_nil, Nat.reduceAdd, Nat.reduceSub, List.replicate_succ, List.replicate_zero, List.cons_append, List.nil_append]
  repeat' (first | (with_reducible refine a_seq_k ?_; intro K hK) | (with_reducible first | refine a_block ?_ | refine a_ret ?_ | refine a_exit ?_ | refine a_skip ?_ | exact ConfOk.mk (by kernel_rfl)) | ((fail_if_success with_reducible show False); with_reducible apply_assumption (exfalso := false) (symm := false) only [*, rfl, trivial, congrArg]) | with_reducible refine And.intro ?_ ?_ | (intro h; contradiction) | (intro h; subst h) | intro h | ((try (with_reducible first | refine a_region (by kernel_rfl) ?_ | (refine a_draw mixed (by kernel_rfl) ?_; intro C hC) | (refine a_cond_k ?_; intro X Y hX hY) | refine RetOk.mk ?_)); simp (maxSteps := 10000000) (implicitDefEqProofs := false) only [go_sem, nodeE]))
  refine a_loop_k (fun m st => (m = ks.length ∧ Has st 51 [(1, .slice (ks.map Dom.enc)), (5, .ptr 5 1 0), (6, .int .i64 0)] [(5, .box 1 (nodeE op .nils))]) ∨ (∃ (g : Nat) (pre rest : List Dom), ks = pre ++ rest ∧ pre ≠ [] ∧ m = rest.length ∧ Has st 51 [(1, .slice (ks.map Dom.enc)), (5, .ptr 5 1 0), (6, .int .i64 pre.length)] [(5, .box 1 (nodeE op (.view 24 g))), (24, .row g 8 (lfs pre.length))])) ks.length (.inl ⟨rfl, ⟨rfl, rfl, by simp, by simp⟩⟩) ?_
  rintro m st (⟨rfl, hs⟩ | ⟨g, pre, rest, he, hp, rfl, hs⟩) K0 hK0
  · rcases ks with _ | ⟨x, r⟩
    · clear ez
      rw [show ksZ (zsOf []) = .nils from rfl] at h1 h2
      simp only [List.map_nil] at h1 h2
      refine a_has hs fun τ σ γ => ?_
      repeat' (first | (with_reducible refine a_seq_k ?_; intro K hK) | (with_reducible first | refine a_block ?_ | refine a_ret ?_ | refine a_exit ?_ | refine a_skip ?_ | exact ConfOk.mk (by kernel_rfl)) | ((fail_if_success with_reducible show False); with_reducible apply_assumption (exfalso := false) (symm := false) only [*, rfl, trivial, congrArg]) | with_reducible refine And.intro ?_ ?_ | (intro h; contradiction) | (intro h; subst h) | intro h | ((try (with_reducible first | refine a_region (by kernel_rfl) ?_ | (refine a_draw mixed (by kernel_rfl) ?_; intro C hC) | (refine a_cond_k ?_; intro X Y hX hY) | refine RetOk.mk ?_ | refine CallS.intro (h1) ?_ | refine CallD.intro (h1) ?_ | refine CallS.intro (h2) ?_ | refine CallD.intro (h2) ?_ | refine CallS.intro (h3) ?_ | refine CallD.intro (h3) ?_ | refine CallS.intro (h4) ?_ | refine CallD.intro (h4) ?_)); simp (maxSteps := 10000000) (implicitDefEqProofs := false) only [go_sem, nodeE]))
    · clear h1 h2 h3 h4 ez
      refine a_has hs fun τ σ γ => ?_
      have hgt : (0 : Int) < ((r.length + 1 : Nat) : Int) := by omega
      repeat' (first | (with_reducible refine a_seq_k ?_; intro K hK) | (with_reducible first | refine a_block ?_ | refine a_ret ?_ | refine a_exit ?_ | refine a_skip ?_ | exact ConfOk.mk (by kernel_rfl)) | ((fail_if_success with_reducible show False); with_reducible apply_assumption (exfalso := false) (symm := false) only [*, rfl, trivial, congrArg]) | with_reducible refine And.intro ?_ ?_ | (intro h; contradiction) | (intro h; subst h) | intro h | ((try (with_reducible first | refine a_region (by kernel_rfl) ?_ | (refine a_draw mixed (by kernel_rfl) ?_; intro C hC) | (refine a_cond_k ?_; intro X Y hX hY) | refine RetOk.mk ?_ | refine CallS.intro (hc _) ?_ | refine CallD.intro (hc _) ?_)); simp (maxSteps := 10000000) (implicitDefEqProofs := false) only [go_sem, nodeE, wr1, hgt, all8]))
      all_goals exact ⟨⟨r.length, by simp, .inr ⟨γ + 1, [x], r, rfl, by simp, rfl, ⟨rfl, rfl, by simp, by simp [lfs]⟩⟩⟩⟩
  · have hw := wrap_nat pre.length (by have := congrArg List.length he; simp at this; omega)
    rcases rest with _ | ⟨x, rest⟩
    · rw [List.append_nil] at he
      subst he
      rw [ez hp] at h1 h2
      clear ez
      refine a_has hs fun τ σ γ => ?_
      simp (maxSteps := 10000000) (implicitDefEqProofs := false) only [go_sem]
      refine a_freezeB 5 [.int .u8 op, .int .u8 0, .int .i64 0, .str ⟨#[]⟩, .int .i64 0, .int .i64 0] [.nils] (gb := 1) (k := 24) (g := g) (es := 8) (els := lfs ks.length) (by decide) (by simp [nodeE]) (by simp [lookRow]) ?_
      simp only [List.set_cons_zero, List.set_cons_succ, List.cons_append, List.nil_append]
      repeat' (first | (with_reducible refine a_seq_k ?_; intro K hK) | (with_reducible first | refine a_block ?_ | refine a_ret ?_ | refine a_exit ?_ | refine a_skip ?_ | exact ConfOk.mk (by kernel_rfl)) | ((fail_if_success with_reducible show False); with_reducible apply_assumption (exfalso := false) (symm := false) only [*, rfl, trivial, congrArg]) | with_reducible refine And.intro ?_ ?_ | (intro h; contradiction) | (intro h; subst h) | intro h | ((try (with_reducible first | refine a_region (by kernel_rfl) ?_ | (refine a_draw mixed (by kernel_rfl) ?_; intro C hC) | (refine a_cond_k ?_; intro X Y hX hY) | refine RetOk.mk ?_ | refine CallS.intro (h1) ?_ | refine CallD.intro (h1) ?_ | refine CallS.intro (h2) ?_ | refine CallD.intro (h2) ?_ | refine CallS.intro (h3) ?_ | refine CallD.intro (h3) ?_ | refine CallS.intro (h4) ?_ | refine CallD.intro (h4) ?_)); simp (maxSteps := 10000000) (implicitDefEqProofs := false) only [go_sem, nodeE]))
    · subst he
      clear h1 h2 h3 h4 ez
      refine a_has hs fun τ σ γ => ?_
      repeat' (first | (with_reducible refine a_seq_k ?_; intro K hK) | (with_reducible first | refine a_block ?_ | refine a_ret ?_ | refine a_exit ?_ | refine a_skip ?_ | exact ConfOk.mk (by kernel_rfl)) | ((fail_if_success with_reducible show False); with_reducible apply_assumption (exfalso := false) (symm := false) only [*, rfl, trivial, congrArg]) | with_reducible refine And.intro ?_ ?_ | (intro h; contradiction) | (intro h; subst h) | intro h | ((try (with_reducible first | refine a_region (by kernel_rfl) ?_ | (refine a_draw mixed (by kernel_rfl) ?_; intro C hC) | (refine a_cond_k ?_; intro X Y hX hY) | refine RetOk.mk ?_ | refine CallS.intro (hc _) ?_ | refine CallD.intro (hc _) ?_)); simp (maxSteps := 10000000) (implicitDefEqProofs := false) only [go_sem, nodeE, hw, all8, lfs, List.length_range]))
      all_goals simp only [List.length_append, List.length_cons] at hl
      try any_goals (show _ ≤ _; omega)
      all_goals exact ⟨⟨rest.length, by simp, .inr ⟨γ + 1, pre ++ [x], rest, by simp, by simp, rfl, ⟨rfl, rfl, by simp, by simp [lfs, List.range_succ]⟩⟩⟩⟩
end Go.Proofs.YtoggbjfjmbjegaaGreatDoor
