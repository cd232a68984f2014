/-
  Bytes as an image: the walk.
  No condition.
-/
import Derived.Test.YtmpabjogookkpaaGreatBkF
import Derived.Test.YtmpabjogookkpaaGreatVxJ
set_option linter.unusedVariables false
namespace Go.Vex
open Go.Proofs
set_option maxRecDepth 100000
noncomputable abbrev c8 : Code := codeOf Tryz.f8
noncomputable abbrev d1 : Code := seqR c8
noncomputable abbrev d2 : Code := seqR d1
noncomputable abbrev d4 : Code := seqR d2
noncomputable abbrev d5 : Code := seqR d4
noncomputable abbrev d10 : Code := seqR d5
noncomputable abbrev d18 : Code := seqR d10
noncomputable abbrev d20 : Code := seqR d18
noncomputable abbrev l8c : Code := loopB (blkB (seqR (seqL d5)))
noncomputable abbrev l8r : Code := loopB (blkB (seqR (seqL d10)))
noncomputable abbrev r8 : Code := seqR (blkB (seqL (seqR (seqR l8c))))
theorem plan8 : drawPlan (opsOf r8) = some [⟨0, [], []⟩, ⟨1, [], []⟩, ⟨2, [], []⟩, ⟨3, [], []⟩, ⟨4, [1, 0], []⟩, ⟨5, [], []⟩, ⟨6, [1, 0], []⟩, ⟨7, [], []⟩, ⟨8, [], []⟩, ⟨9, [], []⟩] := by kernel_rfl
theorem gl84 : (List.range 84).all (isGlob 19342813113834066795298815) = true := by kernel_rfl
theorem el_23 : elemOf Tryz.prog 23 = some 52 := by kernel_rfl
theorem gr_52 : growSize Tryz.prog 52 = some 2 := by kernel_rfl
theorem zc_25 : zeroCells Tryz.prog 25 = some [.nils, .int .i64 0, .nils] := by kernel_rfl
variable {ρ ρ0 : Rho} {H H0 : Hp} {w w0 : World} {a : Act} {Q : Exit → Act → World → Prop} {Wr : Nat → Prop}
def cellsC (l : List (Int × Int)) : List AV := (l.map fun p => [AV.int .i64 p.1, AV.int .i64 p.2]).flatten
theorem cellsC_snoc (l : List (Int × Int)) (p : Int × Int) : cellsC (l ++ [p]) = cellsC l ++ [.int .i64 p.1, .int .i64 p.2] := by simp [cellsC]
theorem cellsC_len : ∀ (l : List (Int × Int)), (cellsC l).length = l.length * 2 := by
  intro l
  induction l with
  | nil => rfl
  | cons p l ih => show ([_, _] ++ cellsC l).length = _; rw [List.length_append, ih, List.length_cons]; simp; omega
abbrev S8 (ob p mb : Nat) : List (Nat × AV) := [(2, .ptr ob 0), (4, .ptr p 0), (5, .ptr mb 0)]
abbrev cellsM (Vc : AV) (mem : Int) (Ve : AV) : List AV := [Vc, .int .i64 mem, Ve]
abbrev Z3 : List AV := [.nils, .int .i64 0, .nils]
theorem idec_c (p mb ob_ : Nat) (mem : Int) : ∀ (k i : Nat) (n : Nat), i + k = n → n ≤ 4194304 → ∀ (s : List Nat) (bad : Bool) (l : List (Int × Int)) (Ve : AV) (Φe : List (Nat × List AV)) (ρ : Rho) (H : Hp) (a : Act) (w : World), (∀ c ∈ s, c < 256) → l.length = i →
    Row 2 Ve Φe l.length (cellsC l) →
    Sx Tryz.prog ρ0 H0 w0 84 Wr ((p, cellsRd s bad) :: (mb, cellsM .nils mem Ve) :: (ob_, Z3) :: Φe) (listF ((21, .int .i64 (n : Int)) :: (22, .int .i64 (i : Int)) :: S8 ob_ p mb)) ρ H a w →
    (∀ Ve Φe ρ H a w, Row 2 Ve Φe (cellsV k l s bad).1.length (cellsC (cellsV k l s bad).1) → Sx Tryz.prog ρ0 H0 w0 84 Wr ((p, cellsRd (cellsV k l s bad).2.1 (cellsV k l s bad).2.2) :: (mb, cellsM .nils mem Ve) :: (ob_, Z3) :: Φe) (listF (S8 ob_ p mb)) ρ H a w → Q .normal a w) →
    LoopWp Tryz.prog l8c (Exit.inBlock 0 Q) a w := by
  intro k
  induction k with
  | zero =>
    intro i n hi hn s bad l Ve Φe ρ H a w hs hli hR hX K
    have hlt : ¬ ((i : Int) < (n : Int)) := by omega
    refine LoopWp.unroll (wp_seq (wp_region ?_))
    refine sx_q _ _ _ rfl rfl rfl (by decide) hX rfl (by first | exact hop_bin rfl rfl (bin_lss (by first | exact decide_eq_true (by assumption) | exact decide_eq_false (by assumption))) | rfl) fun a hX => ?_
    refine wp_seq (sx_false hX rfl (wp_exit ?_))
    refine then_exit (then_exit (inBlock_hit ?_))
    exact K Ve Φe ρ H _ w hR (hX.slots _ ⟨rfl, rfl, rfl, trivial⟩)
  | succ k ih =>
    intro i n hi hn s bad l Ve Φe ρ H a w hs hli hR hX K
    have hlt : ((i : Int) < (n : Int)) := by omega
    refine LoopWp.unroll (wp_seq (wp_region ?_))
    refine sx_q _ _ _ rfl rfl rfl (by decide) hX rfl (by first | exact hop_bin rfl rfl (bin_lss (by first | exact decide_eq_true (by assumption) | exact decide_eq_false (by assumption))) | rfl) fun a hX => ?_
    refine wp_seq (sx_true hX rfl (wp_skip ?_))
    refine wp_seq (wp_block (wp_seq (wp_region ?_)))
    refine sx_q _ _ _ rfl rfl rfl (by decide) hX rfl rfl fun a hX => ?_
    refine sx_turn0 _ _ 18 [.ptr p 0] rfl rfl rfl (by decide) hX (hop_callf en_18 rfl) (fun h1 h2 => rnum_spec p s hs bad h1 h2) fun ρ H a w hX => ?_
    refine sx_q _ _ _ rfl rfl rfl (by decide) hX rfl rfl fun a hX => ?_
    have hs1 := numV_lt hs bad
    have hK : ∀ x y : Int × List Nat × Bool, numV s bad = x → numV x.2.1 x.2.2 = y → cellsV (k + 1) l s bad = cellsV k (l ++ [(x.1, y.1)]) y.2.1 y.2.2 := by rintro _ _ rfl rfl; rfl
    generalize hx : numV s bad = x at hX hs1 hK
    obtain ⟨x1, x2, x3⟩ := x
    have hK := hK _ _ rfl rfl
    have hs1 : ∀ c ∈ x2, c < 256 := hs1
    have hs2 := numV_lt hs1 x3
    have hX : Sx Tryz.prog ρ0 H0 w0 84 Wr ((p, cellsRd x2 x3) :: (mb, cellsM .nils mem Ve) :: (ob_, Z3) :: Φe) _ ρ H a w := hX
    have hX := hX.slots [(21, .int .i64 (n : Int)), (22, .int .i64 (i : Int)), (2, .ptr ob_ 0), (4, .ptr p 0), (5, .ptr mb 0), (6, .int .i64 x1)] ⟨rfl, rfl, rfl, rfl, rfl, rfl, trivial⟩
    -- the region
    have hnd := hX.nodup
    simp only [List.map_cons, List.nodup_cons, List.mem_cons, not_or] at hnd
    obtain ⟨⟨hpm, hpo, hpe⟩, ⟨hmo, hme⟩, hoe, hen⟩ := hnd
    have hpn := (hX.hp 0 p _ rfl).1
    have hmn := (hX.hp 1 mb _ rfl).1
    have hon := (hX.hp 2 ob_ _ rfl).1
    have hcp := hX.has 0 rfl
    have hcm := hX.has 1 rfl
    have hco := hX.has 2 rfl
    have hce : ∀ y ∈ Φe, y.1 < H.next ∧ Content (H.fn y.1) y.2 := fun y hy => by
      obtain ⟨j, hj⟩ := List.mem_iff_getElem?.1 hy
      obtain ⟨q1, q2, _⟩ := hX.hp (j + 3) y.1 y.2 hj
      exact ⟨q1, q2⟩
    have hpe : ∀ y ∈ Φe, y.1 ≠ p := fun y hy e => hpe (by rw [← e]; exact List.mem_map_of_mem hy)
    have hme : ∀ y ∈ Φe, y.1 ≠ mb := fun y hy e => hme (by rw [← e]; exact List.mem_map_of_mem hy)
    have hoe : ∀ y ∈ Φe, y.1 ≠ ob_ := fun y hy e => hoe (by rw [← e]; exact List.mem_map_of_mem hy)
    generalize hy : numV x2 x3 = y at hs2 hK
    obtain ⟨y1, y2, y3⟩ := y
    obtain ⟨Hn, n1, n2, n3, n4⟩ := hcp.store (i := 0) (vs := cellsRd y2 y3) (by simp [cellsRd])
    have hcall : CallOK Tryz.prog (oneCall 18 [.ptr p 0] H (.ret (.int .i64 y1) Hn)) := oneCall_ok (turns_kpost (k := 2) (cs := cellsRd x2 x3) (cs' := cellsRd y2 y3) (by
      have := rnum_spec p x2 hs1 x3 hpn hcp
      unfold NumRd at this
      rw [hy] at this; exact this) rfl rfl hcp rfl n1 hpn)
    have hcm1 : Content (Hn.fn mb) (cellsM .nils mem Ve) := by rw [n3 mb (Ne.symm hpm)]; exact hcm
    obtain ⟨tb, b1, b2⟩ := ofList_tot [AV.int .i64 x1, AV.int .i64 y1]
    obtain ⟨H1, ha⟩ := Hp.alloc_tot Hn (.cells [AV.int .i64 x1, AV.int .i64 y1].length .any tb)
    obtain ⟨a1, a2⟩ := Hp.alloc_fn ha
    have hcm2 : Content (H1.fn mb) (cellsM .nils mem Ve) := by rw [a2, if_neg (by omega)]; exact hcm1
    have hcb : Content (H1.fn Hn.next) [AV.int .i64 x1, AV.int .i64 y1] := by rw [a2, if_pos rfl]; exact ofList_content b1
    obtain ⟨H2, g1, g2, g3, g4⟩ := app_row (P := Tryz.prog) (H := H1) (m := 1) (x := .slice Hn.next 0 1 (.fix 1)) hR (fun y hy => by
      obtain ⟨q1, q2⟩ := hce y hy
      rw [a2, if_neg (by omega), n3 _ (hpe y hy)]; exact q2) gr_52 rfl (by decide) (by omega) (hcb.loadN (i := 0) (k := 1 * 2) (by simp) rfl) (by decide)
    have hcm3 : Content (H2.fn mb) (cellsM .nils mem Ve) := by rw [g3 mb (by omega) hme]; exact hcm2
    obtain ⟨H3, s1, s2, s3, s4⟩ := hcm3.store (i := 2) (vs := [.slice H1.next 0 (l.length + 1) (.opn 2)]) (by simp)
    refine sx_draw fo hcall 19342813113834066795298815 [(21, .int .i64 (n : Int)), (22, .int .i64 (i : Int)), (2, .ptr ob_ 0), (4, .ptr p 0), (5, .ptr mb 0), (6, .int .i64 x1)] _ _ H3 hX ⟨rfl, rfl, rfl, rfl, rfl, rfl, trivial⟩ plan8
      (draw_val rfl rfl rfl (hop_field' fz_25_2 rfl) rfl rfl (draw_val rfl rfl rfl (hop_load ty_23 rfl (hcm.load1 rfl)) rfl rfl (draw_val rfl rfl rfl rfl rfl rfl (draw_val rfl rfl rfl rfl rfl rfl
        (draw_call rfl rfl rfl (hop_callg rfl en_18 rfl) (oneCall_eq _ _ _ _) rfl (again_cons rfl rfl (hop_load ty_23 rfl (hcm1.load1 rfl)) rfl rfl (again_cons rfl rfl (hop_field' fz_25_2 rfl) rfl rfl rfl))
          (draw_val rfl rfl rfl rfl rfl rfl
            (draw_val rfl rfl rfl (hop_bslice' b1 H1 ha el_23 sz_52 zc_52 rfl rfl rfl (by decide)) rfl (again_cons rfl rfl (hop_load ty_23 rfl (hcm2.load1 rfl)) rfl rfl (again_cons rfl rfl (hop_field' fz_25_2 rfl) rfl rfl rfl))
              (draw_val rfl rfl rfl (hop_app el_23 Tryz.underlying23 rfl rfl rfl g1) rfl rfl (draw_val rfl rfl rfl (hop_field' fz_25_2 rfl) rfl rfl (draw_skip rfl rfl rfl (hop_storeN sz_23 rfl rfl rfl rfl H3 s1) rfl rfl rfl)))))))))) fun ρ a w hE hd hr hxx => ?_
    have hX := hX.anyD hr hxx (EnvS.sl gl84 hE [(21, .int .i64 (n : Int)), (22, .int .i64 (i : Int)), (2, .ptr ob_ 0), (4, .ptr p 0), (5, .ptr mb 0)] ⟨⟨rfl, rfl⟩, ⟨rfl, rfl⟩, ⟨rfl, rfl⟩, ⟨rfl, rfl⟩, ⟨rfl, rfl⟩, trivial⟩) hd (fun c hc hne => by
        have c1 : c ≠ p := fun e => hne _ List.mem_cons_self e.symm
        have c2 : c ≠ mb := fun e => hne _ (List.mem_cons_of_mem _ List.mem_cons_self) e.symm
        rw [s3 c c2, g3 c (by omega) (fun y hy e => hne y (List.mem_cons_of_mem _ (List.mem_cons_of_mem _ (List.mem_cons_of_mem _ hy))) e), a2, if_neg (by omega), n3 c c1])
      [(p, cellsRd y2 y3), (mb, cellsM .nils mem (.slice H1.next 0 (l.length + 1) (.opn 2))), (ob_, Z3), (H1.next, cellsC (l ++ [(x1, y1)]))] (fun z hz => by
        simp only [List.mem_cons, List.not_mem_nil, or_false] at hz
        rcases hz with rfl | rfl | rfl | rfl
        · refine ⟨by show p < _; omega, ?_, .inr ⟨_, List.mem_cons_self, rfl⟩⟩
          show Content (H3.fn p) _
          rw [s3 p hpm, g3 p (by omega) hpe, a2, if_neg (by omega)]
          exact n4
        · exact ⟨by show mb < _; omega, s4, .inr ⟨_, List.mem_cons_of_mem _ List.mem_cons_self, rfl⟩⟩
        · refine ⟨by show ob_ < _; omega, ?_, .inr ⟨_, List.mem_cons_of_mem _ (List.mem_cons_of_mem _ List.mem_cons_self), rfl⟩⟩
          show Content (H3.fn ob_) _
          rw [s3 ob_ (Ne.symm hmo), g3 ob_ (by omega) hoe, a2, if_neg (by omega), n3 ob_ (Ne.symm hpo)]
          exact hco
        · refine ⟨by show H1.next < _; omega, ?_, .inl (by show H.next ≤ H1.next; omega)⟩
          show Content (H3.fn H1.next) _
          rw [s3 _ (by omega), cellsC_snoc]; exact g4) (by
        show (p :: mb :: ob_ :: [H1.next]).Nodup
        simp only [List.nodup_cons, List.mem_cons, List.not_mem_nil, or_false, not_or, not_false_eq_true, List.nodup_nil, and_true]
        refine ⟨⟨hpm, hpo, by omega⟩, ⟨hmo, by omega⟩, by omega⟩)
    show ((seqR (seqR (seqR l8c))).wp _ _ _ _)
    refine wp_region ?_
    have e2 : IntKind.i64.wrap ((i : Int) + Int.ofNat 1) = ((i + 1 : Nat) : Int) := by rw [wrap_i64]; unfold Img.wrapI; show ((i : Int) + 1 + _) % _ - _ = _; omega
    refine sx_q _ _ (.int .i64 ((i + 1 : Nat) : Int)) rfl rfl rfl (by decide) hX rfl (by rw [← e2]; exact hop_bin rfl rfl bin_add) fun a hX => ?_
    refine sx_q _ _ _ rfl rfl rfl (by decide) hX rfl rfl fun a hX => ?_
    rw [hK] at K
    have hl1 : (l ++ [(x1, y1)]).length = l.length + 1 := by simp
    refine ih (i + 1) n (by omega) hn y2 y3 (l ++ [(x1, y1)]) _ [(H1.next, cellsC (l ++ [(x1, y1)]))] ρ H3 _ w hs2 (by omega) ?_ (hX.slots _ ⟨rfl, rfl, rfl, rfl, rfl, trivial⟩) K
    refine .inr ⟨H1.next, by rw [hl1], rfl, ?_⟩
    rw [cellsC_snoc, List.length_append, hl1]
    rw [cellsC_len]; simp; omega
end Go.Vex
namespace Go.Vex
open Go.Proofs
set_option maxRecDepth 100000
variable {ρ ρ0 : Rho} {H H0 : Hp} {w w0 : World} {a : Act} {Q : Exit → Act → World → Prop} {Wr : Nat → Prop}
theorem el_22 : elemOf Tryz.prog 22 = some 45 := by kernel_rfl
theorem gr_45 : growSize Tryz.prog 45 = some 1 := by kernel_rfl
theorem zc_45 : zeroCells Tryz.prog 45 = some [.nils] := by kernel_rfl
theorem en_19 : enterOK Tryz.prog 19 = true := by kernel_rfl
theorem en_20 : enterOK Tryz.prog 20 = true := by kernel_rfl
/-- The rows of operations, each in a block of the walk's own. -/
def RowsIn (Φ : List (Nat × List AV)) (Vs : List AV) (rs : List (List Img.Op)) : Prop := Vs.length = rs.length ∧ ∀ (i : Nat) (r : List Img.Op), rs[i]? = some r → ∃ V Φr, Vs[i]? = some V ∧ Row 6 V Φr r.length (opsCells r) ∧ ∀ x ∈ Φr, x ∈ Φ
theorem RowsIn.mono {Φ Φ' : List (Nat × List AV)} {Vs : List AV} {rs : List (List Img.Op)} (h : RowsIn Φ Vs rs) (hs : ∀ x ∈ Φ, x ∈ Φ') : RowsIn Φ' Vs rs :=
  ⟨h.1, fun i r hr => let ⟨V, Φr, h1, h2, h3⟩ := h.2 i r hr; ⟨V, Φr, h1, h2, fun x hx => hs x (h3 x hx)⟩⟩
theorem RowsIn.snoc {Φ : List (Nat × List AV)} {Vs : List AV} {rs : List (List Img.Op)} (h : RowsIn Φ Vs rs) {V : AV} {Φr : List (Nat × List AV)} {r : List Img.Op} (hR : Row 6 V Φr r.length (opsCells r)) (hs : ∀ x ∈ Φr, x ∈ Φ) : RowsIn Φ (Vs ++ [V]) (rs ++ [r]) := by
  refine ⟨by simp [h.1], fun i r' hr => ?_⟩
  by_cases hi : i < rs.length
  · rw [List.getElem?_append_left hi] at hr
    obtain ⟨V', Φ', h1, h2, h3⟩ := h.2 i r' hr
    exact ⟨V', Φ', by rw [List.getElem?_append_left (by rw [h.1]; exact hi)]; exact h1, h2, h3⟩
  · rw [List.getElem?_append_right (by omega)] at hr
    have e0 : i - rs.length = 0 := by have := (List.getElem?_eq_some_iff.1 hr).1; simp at this; omega
    rw [e0] at hr
    simp at hr; subst hr
    exact ⟨V, Φr, by rw [List.getElem?_append_right (by rw [h.1]; omega), h.1, e0]; rfl, hR, hs⟩
/-- New blocks of a callee's are taken over. -/
theorem Sx.adds {P : Program} {n : Nat} {F : SlF} : ∀ (Ψ : List (Nat × List AV)) {Φ : List (Nat × List AV)} {N : Nat}, Sx P ρ0 H0 w0 n Wr Φ F ρ H a w → (∀ x ∈ Φ, x.1 < N) → H0.next ≤ N → (∀ x ∈ Ψ, N ≤ x.1 ∧ x.1 < H.next ∧ Content (H.fn x.1) x.2) → (Ψ.map (·.1)).Nodup → Sx P ρ0 H0 w0 n Wr (Φ ++ Ψ) F ρ H a w := by
  intro Ψ Φ N h hΦ hN hΨ hnd
  refine ⟨h.sl, h.rep, h.ext, h.df, h.kp, fun k b cs hk => ?_, fun j k b c1 c2 hj hk => ?_⟩
  · by_cases hl : k < Φ.length
    · rw [List.getElem?_append_left hl] at hk; exact h.hp k b cs hk
    · rw [List.getElem?_append_right (by omega)] at hk
      obtain ⟨g1, g2, g3⟩ := hΨ _ (List.mem_of_getElem? hk)
      exact ⟨g2, g3, fun hb => by have : N ≤ b := g1; omega⟩
  · by_cases hlj : j < Φ.length
    · rw [List.getElem?_append_left hlj] at hj
      by_cases hlk : k < Φ.length
      · rw [List.getElem?_append_left hlk] at hk; exact h.ds j k b c1 c2 hj hk
      · rw [List.getElem?_append_right (by omega)] at hk
        have h1 : b < N := hΦ _ (List.mem_of_getElem? hj)
        have h2 : N ≤ b := (hΨ _ (List.mem_of_getElem? hk)).1
        omega
    · rw [List.getElem?_append_right (by omega)] at hj
      by_cases hlk : k < Φ.length
      · rw [List.getElem?_append_left hlk] at hk
        have h1 : b < N := hΦ _ (List.mem_of_getElem? hk)
        have h2 : N ≤ b := (hΨ _ (List.mem_of_getElem? hj)).1
        omega
      · rw [List.getElem?_append_right (by omega)] at hk
        obtain ⟨h1, e1⟩ := List.getElem?_eq_some_iff.1 hj
        obtain ⟨h2, e2⟩ := List.getElem?_eq_some_iff.1 hk
        rw [List.nodup_iff_pairwise_ne, List.pairwise_iff_getElem] at hnd
        have hd' : ∀ (p q : Nat) (hp : p < Ψ.length) (hq : q < Ψ.length), p < q → Ψ[p].1 ≠ Ψ[q].1 := fun p q hp hq hpq => by
          have := hnd p q (by simpa using hp) (by simpa using hq) hpq
          simpa using this
        rcases Nat.lt_trichotomy j k with hl | rfl | hl
        · exact absurd (by rw [e1, e2]) (hd' (j - Φ.length) (k - Φ.length) h1 h2 (by omega))
        · rfl
        · exact absurd (by rw [e1, e2]) (hd' (k - Φ.length) (j - Φ.length) h2 h1 (by omega))
theorem Sx.below {P : Program} {n : Nat} {F : SlF} {Φ : List (Nat × List AV)} (h : Sx P ρ0 H0 w0 n Wr Φ F ρ H a w) : ∀ x ∈ Φ, x.1 < H.next := fun x hx => by
  obtain ⟨j, hj⟩ := List.mem_iff_getElem?.1 hx
  exact (h.hp j x.1 x.2 hj).1
theorem Row.nodup {sz len : Nat} {V : AV} {Φ : List (Nat × List AV)} {cs : List AV} (h : Row sz V Φ len cs) : (Φ.map (·.1)).Nodup := by
  rcases h with ⟨_, rfl, _⟩ | ⟨b, _, rfl, _⟩ <;> simp
theorem perm3 {α : Type} {x y z : α} {l m : List α} : (x :: y :: z :: (l ++ m)).Perm (l ++ (x :: y :: z :: m)) :=
  ((List.perm_middle (l₁ := l) (a := z) (l₂ := m)).symm.cons y |>.trans (List.perm_middle (l₁ := l) (a := y) (l₂ := z :: m)).symm).cons x |>.trans (List.perm_middle (l₁ := l) (a := x) (l₂ := y :: z :: m)).symm
theorem cntV_len (s : List Nat) (bad : Bool) (each : Nat) : (cntV s bad each).2.1.length ≤ s.length := by
  unfold cntV
  split
  · exact takeV_len s bad 8
  · exact takeV_len s bad 8
theorem idec_r (p mb ob_ : Nat) (mem : Int) (Ve : AV) : ∀ (k i : Nat) (n : Nat), i + k = n → n ≤ 8388608 → ∀ (s : List Nat) (bad : Bool) (rs : List (List Img.Op)) (Vs : List AV) (Vc : AV) (Φc Φt : List (Nat × List AV)) (ρ : Rho) (H : Hp) (a : Act) (w : World), (∀ c ∈ s, c < 256) → s.length ≤ 67108864 → rs.length = i →
    Row 1 Vc Φc rs.length Vs → RowsIn Φt Vs rs →
    Sx Tryz.prog ρ0 H0 w0 84 Wr ((p, cellsRd s bad) :: (mb, cellsM Vc mem Ve) :: (ob_, Z3) :: (Φc ++ Φt)) (listF ((37, .int .i64 (n : Int)) :: (38, .int .i64 (i : Int)) :: S8 ob_ p mb)) ρ H a w →
    (∀ Vs Vc Φc Φt' ρ H a w, (∀ x ∈ Φt, x ∈ Φt') → Row 1 Vc Φc (rowsV k rs s bad).1.length Vs → RowsIn Φt' Vs (rowsV k rs s bad).1 → Sx Tryz.prog ρ0 H0 w0 84 Wr ((p, cellsRd (rowsV k rs s bad).2.1 (rowsV k rs s bad).2.2) :: (mb, cellsM Vc mem Ve) :: (ob_, Z3) :: (Φc ++ Φt')) (listF (S8 ob_ p mb)) ρ H a w → Q .normal a w) →
    LoopWp Tryz.prog l8r (Exit.inBlock 2 Q) a w := by
  intro k
  induction k with
  | zero =>
    intro i n hi hn s bad rs Vs Vc Φc Φt ρ H a w hs hsl hli hR hRs hX K
    have hlt : ¬ ((i : Int) < (n : Int)) := by omega
    refine LoopWp.unroll (wp_seq (wp_region ?_))
    refine sx_q _ _ _ rfl rfl rfl (by decide) hX rfl (by first | exact hop_bin rfl rfl (bin_lss (by first | exact decide_eq_true (by assumption) | exact decide_eq_false (by assumption))) | rfl) fun a hX => ?_
    refine wp_seq (sx_false hX rfl (wp_exit ?_))
    refine then_exit (then_exit (inBlock_hit ?_))
    exact K Vs Vc Φc Φt ρ H _ w (fun _ h => h) hR hRs (hX.slots _ ⟨rfl, rfl, rfl, trivial⟩)
  | succ k ih =>
    intro i n hi hn s bad rs Vs Vc Φc Φt ρ H a w hs hsl hli hR hRs hX K
    have hlt : ((i : Int) < (n : Int)) := by omega
    refine LoopWp.unroll (wp_seq (wp_region ?_))
    refine sx_q _ _ _ rfl rfl rfl (by decide) hX rfl (by first | exact hop_bin rfl rfl (bin_lss (by first | exact decide_eq_true (by assumption) | exact decide_eq_false (by assumption))) | rfl) fun a hX => ?_
    refine wp_seq (sx_true hX rfl (wp_skip ?_))
    have hK : rowsV (k + 1) rs s bad = match decIsa (takeV (cntV s bad 1).2.1 (cntV s bad 1).2.2 (cntV s bad 1).1).1 with
      | none => (rs, (takeV (cntV s bad 1).2.1 (cntV s bad 1).2.2 (cntV s bad 1).1).2.1, true)
      | some r => if (takeV (cntV s bad 1).2.1 (cntV s bad 1).2.2 (cntV s bad 1).1).2.2 then (rs, (takeV (cntV s bad 1).2.1 (cntV s bad 1).2.2 (cntV s bad 1).1).2.1, true) else rowsV k (rs ++ [r]) (takeV (cntV s bad 1).2.1 (cntV s bad 1).2.2 (cntV s bad 1).1).2.1 (takeV (cntV s bad 1).2.1 (cntV s bad 1).2.2 (cntV s bad 1).1).2.2 := rfl
    refine wp_seq (wp_block (wp_seq (wp_region ?_)))
    refine sx_q _ _ _ rfl rfl rfl (by decide) hX rfl rfl fun a hX => ?_
    refine sx_q _ _ _ rfl rfl rfl (by decide) hX rfl rfl fun a hX => ?_
    refine sx_turn0 _ _ 19 [.ptr p 0, .int .i64 ((1 : Nat) : Int)] rfl rfl rfl (by decide) hX (hop_callf en_19 rfl) (fun h1 h2 => cnt_spec p s hs (by omega) bad 1 (by decide) h1 h2) fun ρ H a w hX => ?_
    have hs1 := cntV_lt hs bad 1
    have hsl1 := cntV_len s bad 1
    generalize hx : cntV s bad 1 = x at hX hs1 hK hsl1
    obtain ⟨x1, x2, x3⟩ := x
    have hX : Sx Tryz.prog ρ0 H0 w0 84 Wr ((p, cellsRd x2 x3) :: (mb, cellsM Vc mem Ve) :: (ob_, Z3) :: (Φc ++ Φt)) _ ρ H a w := hX
    have hs1 : ∀ c ∈ x2, c < 256 := hs1
    have hsl1 : x2.length ≤ s.length := hsl1
    simp only at hK
    refine sx_turn0 _ _ 17 [.ptr p 0, .int .i64 x1] rfl rfl rfl (by decide) hX (hop_callf en_17 rfl) (fun h1 h2 => take_spec p x2 x3 x1 h1 h2) fun ρ H a w hX => ?_
    have hs2 := (takeV_lt hs1 x3 x1)
    have hsl2 := takeV_len x2 x3 x1
    have hsl3 : (takeV x2 x3 x1).1.length ≤ x2.length := by
      unfold takeV
      split
      · simp
      · show (x2.take _).length ≤ _; rw [List.length_take]; omega
    generalize hy : takeV x2 x3 x1 = y at hX hs2 hK hsl2 hsl3
    obtain ⟨y1, y2, y3⟩ := y
    have hX : Sx Tryz.prog ρ0 H0 w0 84 Wr ((p, cellsRd y2 y3) :: (mb, cellsM Vc mem Ve) :: (ob_, Z3) :: (Φc ++ Φt)) _ ρ H a w := hX
    have hs2 : (∀ c ∈ y1, c < 256) ∧ ∀ c ∈ y2, c < 256 := hs2
    have hsl2 : y2.length ≤ x2.length := hsl2
    have hsl3 : y1.length ≤ x2.length := hsl3
    simp only at hK
    refine sx_call _ 20 [.str y1] rfl rfl hX (hop_callf en_20 rfl) (dec_spec y1 hs2.1 (by omega) H) fun v ρ' H' u w' hD hv hr hxx => ?_
    obtain ⟨hst, hD⟩ := hD
    have hbl := hX.below
    have hX' := (hX.stay hr hxx hst).put (d := 45) (by decide) hv
    have hp' := (hX.hp 0 p _ rfl).1
    rcases hD with ⟨l, hg, hel, V, Φr, hR6, rfl, hΦr⟩ | ⟨at_, e, he0, rfl, hno⟩
    · -- a row
      rw [decIsa_some hs2.1 hg hel] at hK
      have hX := Sx.adds Φr hX' hbl hX.next_le hΦr hR6.nodup
      simp only [List.cons_append, List.append_assoc] at hX
      refine sx_q _ _ _ rfl rfl rfl (by decide) hX rfl rfl fun a hX => ?_
      refine sx_q _ _ V rfl rfl rfl (by decide) hX rfl rfl fun a hX => ?_
      refine sx_q _ _ (.int .i64 0) rfl rfl rfl (by decide) hX rfl rfl fun a hX => ?_
      refine sx_q _ _ (.int .i64 0) rfl rfl rfl (by decide) hX rfl rfl fun a hX => ?_
      refine sx_q _ _ V rfl rfl rfl (by decide) hX rfl rfl fun a hX => ?_
      refine sx_q _ _ (.int .i64 0) rfl rfl rfl (by decide) hX rfl rfl fun a hX => ?_
      refine sx_q _ _ (.int .i64 0) rfl rfl rfl (by decide) hX rfl rfl fun a hX => ?_
      refine wp_seq (wp_seq (wp_region ?_))
      refine sx_q _ _ _ rfl rfl rfl (by decide) hX rfl rfl fun a hX => ?_
      refine sx_q _ _ (.bool false) rfl rfl rfl (by decide) hX rfl (hop_bin rfl rfl (bin_neq_f rfl)) fun a hX => ?_
      refine sx_false hX rfl (wp_skip ?_)
      refine wp_seq (wp_seq (wp_region ?_))
      refine sx_q _ _ _ rfl rfl rfl (by decide) hX rfl rfl fun a hX => ?_
      refine sx_q _ _ _ rfl rfl rfl (by decide) hX rfl rfl fun a hX => ?_
      refine sx_q _ _ _ rfl rfl rfl (by decide) hX rfl (hop_field' fz_57_1 rfl) fun a hX => ?_
      refine sx_q _ _ (.bool y3) rfl rfl rfl (by decide) hX rfl (hop_load ty_4 rfl (hX.ld 0 rfl rfl)) fun a hX => ?_
      have hRs' : RowsIn (Φt ++ Φr) Vs rs := hRs.mono fun x hx => List.mem_append_left _ hx
      cases y3 with
      | true =>
        refine sx_true hX rfl (wp_exit ?_)
        refine then_exit (inBlock_miss (by decide) (then_exit (then_exit (inBlock_hit ?_))))
        have hK : rowsV (k + 1) rs s bad = (rs, y2, true) := by rw [hK]; rfl
        rw [hK] at K
        exact K Vs Vc Φc (Φt ++ Φr) ρ' H' _ w' (fun x hx => List.mem_append_left _ hx) hR hRs' (hX.slots _ ⟨rfl, rfl, rfl, trivial⟩)
      | false =>
        have hK : rowsV (k + 1) rs s bad = rowsV k (rs ++ [l]) y2 false := by rw [hK]; rfl
        refine sx_false hX rfl (wp_skip ?_)
        refine wp_region ?_
        refine sx_q _ _ _ rfl rfl rfl (by decide) hX rfl (hop_field' fz_25_0 rfl) fun a hX => ?_
        refine sx_q _ _ Vc rfl rfl rfl (by decide) hX rfl (hop_load ty_22 rfl (hX.ld 1 rfl rfl)) fun a hX => ?_
        refine sx_q _ _ V rfl rfl rfl (by decide) hX rfl rfl fun a hX => ?_
        refine sx_new _ _ (fun b => .slice b 0 1 (.fix 1)) [V] rfl rfl rfl (by decide) hX (hop_bslice el_22 sz_45 zc_45 rfl rfl (by rcases hR6 with ⟨rfl, _⟩ | ⟨_, rfl, _⟩ <;> rfl) (by decide)) fun b ρ H a w hX => ?_
        have hnew := hX.has (Φ := ((p, cellsRd y2 false) :: (mb, cellsM Vc mem Ve) :: (ob_, Z3) :: (Φc ++ (Φt ++ Φr))) ++ [(b, [V])]) (((p, cellsRd y2 false) :: (mb, cellsM Vc mem Ve) :: (ob_, Z3) :: (Φc ++ (Φt ++ Φr))).length) (b := b) (cs := [V]) (by rw [List.getElem?_append_right (Nat.le_refl _), Nat.sub_self]; rfl)
        have hX := hX.left.perm perm3
        refine sx_appR _ _ 1 rs.length Vs [V] rfl rfl rfl (by decide) hX hR rfl el_22 Tryz.underlying22 rfl gr_45 rfl rfl rfl (by decide) (by omega) (hnew.loadN (i := 0) (k := 1 * 1) (by simp) rfl) rfl (by decide) fun Vc' Φc' ρ H a w hR' hX => ?_
        have hX := hX.perm perm3.symm
        refine sx_q _ _ _ rfl rfl rfl (by decide) hX rfl (hop_field' fz_25_0 rfl) fun a hX => ?_
        refine sx_st _ 1 mb 0 _ [Vc'] rfl rfl rfl hX rfl (by simp) (hop_storeN sz_22 rfl rfl (by rcases hR' with ⟨rfl, _⟩ | ⟨_, rfl, _⟩ <;> rfl) rfl) fun ρ H w hX => ?_
        have hX : Sx Tryz.prog ρ0 H0 w0 84 Wr ((p, cellsRd y2 false) :: (mb, cellsM Vc' mem Ve) :: (ob_, Z3) :: (Φc' ++ (Φt ++ Φr))) _ ρ H a w := hX
        show ((seqR (seqR (seqR l8r))).wp _ _ _ _)
        refine wp_region ?_
        have e2 : IntKind.i64.wrap ((i : Int) + Int.ofNat 1) = ((i + 1 : Nat) : Int) := by rw [wrap_i64]; unfold Img.wrapI; show ((i : Int) + 1 + _) % _ - _ = _; omega
        refine sx_q _ _ (.int .i64 ((i + 1 : Nat) : Int)) rfl rfl rfl (by decide) hX rfl (by rw [← e2]; exact hop_bin rfl rfl bin_add) fun a hX => ?_
        refine sx_q _ _ _ rfl rfl rfl (by decide) hX rfl rfl fun a hX => ?_
        rw [hK] at K
        refine ih (i + 1) n (by omega) hn y2 false (rs ++ [l]) (Vs ++ [V]) Vc' Φc' (Φt ++ Φr) ρ H _ w hs2.2 (by omega) (by simp; omega) (by rw [List.length_append]; exact hR') (hRs'.snoc hR6 fun x hx => List.mem_append_right _ hx) (hX.slots _ ⟨rfl, rfl, rfl, rfl, rfl, trivial⟩) fun Vs Vc Φc Φt' ρ H a w hm => K Vs Vc Φc Φt' ρ H a w fun x hx => hm x (List.mem_append_left _ hx)
    · -- none
      rw [decIsa_none hno] at hK
      have hX := hX'
      refine sx_q _ _ _ rfl rfl rfl (by decide) hX rfl rfl fun a hX => ?_
      refine sx_q _ _ .nils rfl rfl rfl (by decide) hX rfl rfl fun a hX => ?_
      refine sx_q _ _ (.int .i64 at_) rfl rfl rfl (by decide) hX rfl rfl fun a hX => ?_
      refine sx_q _ _ (.int .i64 e) rfl rfl rfl (by decide) hX rfl rfl fun a hX => ?_
      refine sx_q _ _ .nils rfl rfl rfl (by decide) hX rfl rfl fun a hX => ?_
      refine sx_q _ _ (.int .i64 at_) rfl rfl rfl (by decide) hX rfl rfl fun a hX => ?_
      refine sx_q _ _ (.int .i64 e) rfl rfl rfl (by decide) hX rfl rfl fun a hX => ?_
      refine wp_seq (wp_seq (wp_region ?_))
      refine sx_q _ _ _ rfl rfl rfl (by decide) hX rfl rfl fun a hX => ?_
      refine sx_q _ _ (.bool true) rfl rfl rfl (by decide) hX rfl (hop_bin rfl rfl (bin_neq_t he0)) fun a hX => ?_
      refine sx_true hX rfl (wp_region ?_)
      refine sx_q _ _ _ rfl rfl rfl (by decide) hX rfl rfl fun a hX => ?_
      refine sx_q _ _ _ rfl rfl rfl (by decide) hX rfl rfl fun a hX => ?_
      refine sx_q _ _ _ rfl rfl rfl (by decide) hX rfl (hop_field' fz_57_1 rfl) fun a hX => ?_
      refine sx_st _ 0 p 1 _ [.bool true] rfl rfl rfl hX rfl (by simp [cellsRd]) (hop_storeN sz_4 rfl rfl rfl rfl) fun ρ H w hX => ?_
      have hX : Sx Tryz.prog ρ0 H0 w0 84 Wr ((p, cellsRd y2 true) :: (mb, cellsM Vc mem Ve) :: (ob_, Z3) :: (Φc ++ Φt)) _ ρ H a w := hX
      refine wp_seq (wp_seq (wp_region ?_))
      refine sx_q _ _ _ rfl rfl rfl (by decide) hX rfl rfl fun a hX => ?_
      refine sx_q _ _ _ rfl rfl rfl (by decide) hX rfl rfl fun a hX => ?_
      refine sx_q _ _ _ rfl rfl rfl (by decide) hX rfl (hop_field' fz_57_1 rfl) fun a hX => ?_
      refine sx_q _ _ (.bool true) rfl rfl rfl (by decide) hX rfl (hop_load ty_4 rfl (hX.ld 0 rfl rfl)) fun a hX => ?_
      refine sx_true hX rfl (wp_exit ?_)
      refine then_exit (inBlock_miss (by decide) (then_exit (then_exit (inBlock_hit ?_))))
      have hK : rowsV (k + 1) rs s bad = (rs, y2, true) := by rw [hK]
      rw [hK] at K
      exact K Vs Vc Φc Φt ρ H _ w (fun x hx => hx) hR hRs (hX.slots _ ⟨rfl, rfl, rfl, trivial⟩)
end Go.Vex
namespace Go.Vex
open Go.Proofs
set_option maxRecDepth 100000
variable {ρ ρ0 : Rho} {H H0 : Hp} {w w0 : World} {a : Act} {Q : Exit → Act → World → Prop} {Wr : Nat → Prop}
theorem cntV_nn (s : List Nat) (bad : Bool) {each : Nat} : 0 ≤ (cntV s bad each).1 ∧ (cntV s bad each).1 ≤ ((s.length / each : Nat) : Int) := by
  unfold cntV
  split
  · exact ⟨Int.le_refl _, Int.natCast_nonneg _⟩
  · rename_i h
    have h1 : (numV s bad).2.1.length ≤ s.length := takeV_len s bad 8
    have h2 := Nat.div_le_div_right (c := each) h1
    generalize (numV s bad).2.1.length / each = q at h h2
    generalize s.length / each = p at h2 ⊢
    omega
def ErrForm : AV := .int .i64 13
/-- An image in blocks of its own. -/
structure ImIn (Φ : List (Nat × List AV)) (Vc Ve : AV) (m : Img.Im) : Prop where
  ex : ∃ Vs Φe Φc, Row 2 Ve Φe m.cells.length (cellsC m.cells) ∧ Row 1 Vc Φc m.code.length Vs ∧ RowsIn Φ Vs m.code ∧ (∀ x ∈ Φe, x ∈ Φ) ∧ ∀ x ∈ Φc, x ∈ Φ
/-- What image.Decode answers. -/
def IDecR (bs : List Nat) (H : Hp) (v : AV) (H' : Hp) : Prop := Stays H H' ∧
  ((∃ m Vc Ve Φ, parse bs = some m ∧ v = .tup [.agg (cellsM Vc m.mem Ve), .int .i64 0] ∧ ImIn Φ Vc Ve m ∧ (∀ x ∈ Φ, H.next ≤ x.1 ∧ x.1 < H'.next ∧ Content (H'.fn x.1) x.2) ∧ (Φ.map (·.1)).Nodup) ∨ (parse bs = none ∧ v = .tup [.agg Z3, ErrForm]))
theorem opsCells_at : ∀ (l : List Img.Op) (j : Nat) (o : Img.Op), l[j]? = some o → j * 6 + 6 ≤ (opsCells l).length ∧ ((opsCells l).drop (j * 6)).take 6 = cellsOp o := by
  intro l
  induction l with
  | nil => intro j o h; simp at h
  | cons q l ih =>
    intro j o h
    have e : opsCells (q :: l) = cellsOp q ++ opsCells l := rfl
    have e6 : (cellsOp q).length = 6 := rfl
    cases j with
    | zero =>
      simp at h; subst h
      rw [e, Nat.zero_mul, List.drop_zero, List.length_append, e6]
      exact ⟨by omega, List.take_left' e6⟩
    | succ j =>
      obtain ⟨h1, h2⟩ := ih j o (by simpa using h)
      rw [e, List.length_append, e6]
      refine ⟨by omega, ?_⟩
      have : (j + 1) * 6 = (cellsOp q).length + j * 6 := by rw [e6]; omega
      rw [this, ← List.drop_drop, List.drop_left]; exact h2
theorem RowsIn.sl {P : Program} {n : Nat} {Φ Φc Φt : List (Nat × List AV)} {F : SlF} {Vc : AV} {Vs : List AV} {rs : List (List Img.Op)} (hX : Sx P ρ0 H0 w0 n Wr Φ F ρ H a w) (hR : Row 1 Vc Φc rs.length Vs) (hRs : RowsIn Φt Vs rs) (hc : ∀ x ∈ Φc, x ∈ Φ) (ht : ∀ x ∈ Φt, x ∈ Φ) : SlRows H Vc rs := by
  have hin : ∀ x ∈ Φ, x.1 < H.next ∧ Content (H.fn x.1) x.2 := fun x hx => by
    obtain ⟨j, hj⟩ := List.mem_iff_getElem?.1 hx
    obtain ⟨q1, q2, _⟩ := hX.hp j x.1 x.2 hj
    exact ⟨q1, q2⟩
  rcases hR with ⟨rfl, rfl, rfl, h0⟩ | ⟨b, rfl, rfl, hl⟩
  · exact .inl ⟨.inl rfl, List.length_eq_zero_iff.1 h0⟩
  · obtain ⟨h1, h2⟩ := hin _ (hc _ List.mem_cons_self)
    refine .inr ⟨b, 0, .opn 1, Vs, rfl, h1, h2.rds, fun i l hil => ?_⟩
    obtain ⟨V, Φr, g1, g2, g3⟩ := hRs.2 i l hil
    refine ⟨V, by rw [Nat.zero_add, Nat.mul_one]; exact g1, ?_⟩
    rcases g2 with ⟨rfl, rfl, _, h0⟩ | ⟨b', rfl, rfl, hl'⟩
    · exact .inl ⟨.inl rfl, List.length_eq_zero_iff.1 h0⟩
    · obtain ⟨k1, k2⟩ := hin _ (ht _ (g3 _ List.mem_cons_self))
      refine .inr ⟨b', 0, .opn 6, _, rfl, k1, k2.rds, fun j o ho => ?_⟩
      rw [Nat.zero_add]; exact opsCells_at l j o ho
theorem Row.slc {P : Program} {n : Nat} {Φ Φe : List (Nat × List AV)} {F : SlF} {Ve : AV} {l : List (Int × Int)} (hX : Sx P ρ0 H0 w0 n Wr Φ F ρ H a w) (hR : Row 2 Ve Φe l.length (cellsC l)) (hc : ∀ x ∈ Φe, x ∈ Φ) : SlCells H Ve l := by
  rcases hR with ⟨rfl, rfl, _, h0⟩ | ⟨b, rfl, rfl, hl⟩
  · exact .inl ⟨.inl rfl, List.length_eq_zero_iff.1 h0⟩
  · obtain ⟨j, hj⟩ := List.mem_iff_getElem?.1 (hc _ List.mem_cons_self)
    obtain ⟨q1, q2, _⟩ := hX.hp j b _ hj
    refine .inr ⟨b, 0, .opn 2, _, rfl, q1, q2.rds, ?_⟩
    clear hl hj q1 q2 hc hX
    intro i p hp
    rw [Nat.zero_add]
    induction l generalizing i with
    | nil => simp at hp
    | cons q l ih =>
      have e : cellsC (q :: l) = .int .i64 q.1 :: .int .i64 q.2 :: cellsC l := rfl
      cases i with
      | zero => simp at hp; subst hp; rw [e]; simp
      | succ i =>
        obtain ⟨h1, h2⟩ := ih i (by simpa using hp)
        rw [e]
        have : (i + 1) * 2 = i * 2 + 1 + 1 := by omega
        rw [this]
        exact ⟨by simp only [List.length_cons]; omega, h2⟩

theorem ImIn.mono {Φ Φ' : List (Nat × List AV)} {Vc Ve : AV} {m : Img.Im} (h : ImIn Φ Vc Ve m) (hs : ∀ x ∈ Φ, x ∈ Φ') : ImIn Φ' Vc Ve m :=
  let ⟨Vs, Φe, Φc, h1, h2, h3, h4, h5⟩ := h.ex; ⟨Vs, Φe, Φc, h1, h2, h3.mono hs, fun x hx => hs x (h4 x hx), fun x hx => hs x (h5 x hx)⟩
theorem ImIn.sl {P : Program} {n : Nat} {Φ : List (Nat × List AV)} {F : SlF} {Vc Ve : AV} {m : Img.Im} (h : ImIn Φ Vc Ve m) (hX : Sx P ρ0 H0 w0 n Wr Φ F ρ H a w) : SlRows H Vc m.code ∧ SlCells H Ve m.cells := by
  obtain ⟨Vs, Φe, Φc, h1, h2, h3, h4, h5⟩ := h.ex
  exact ⟨RowsIn.sl hX h2 h3 h5 fun x hx => hx, Row.slc hX h1 h4⟩
noncomputable abbrev P8 (bs : List Nat) (ρ0 : Rho) (H0 : Hp) (w0 : World) := bodyPostD Tryz.prog Tryz.f8 (Post ρ0 H0 w0 (IDecR bs H0))
/-- It is no image. -/
theorem idec_no (bs : List Nat) (hn : parse bs = none) {F : SlF} {ob_ : Nat} {cs : List AV} {Ψ : List (Nat × List AV)} (c : Code) (hc : c = condT (seqR (seqL d2)) ∨ c = condT (seqR (seqL d18))) (hF : F 2 = some (.ptr ob_ 0)) (hl : cs.length = 3) {K : Act → World → Prop}
    (hX : Sx Tryz.prog ρ0 H0 w0 84 No ((ob_, cs) :: Ψ) F ρ H a w) : c.wp Tryz.prog (Exit.then K (P8 bs ρ0 H0 w0)) a w := by
  have hX := hX.slots [(2, .ptr ob_ 0)] ⟨hF, trivial⟩
  match cs, hl with
  | [c1, c2, c3], _ =>
  have fin : ∀ {a : Act} {w : World} {ρ : Rho} {H : Hp} {F : SlF}, F 2 = some (.ptr ob_ 0) → F 3 = some ErrForm → Sx Tryz.prog ρ0 H0 w0 84 No ((ob_, Z3) :: Ψ) F ρ H a w → Code.ret.wp Tryz.prog (Exit.then K (P8 bs ρ0 H0 w0)) a w := fun h2 h3 hX =>
    sx_retc 2 3 hX rfl ty_25 h2 (hX.ldN 0 rfl (by decide) rfl) h3 ⟨hX.stays, .inr ⟨hn, rfl⟩⟩ id
  rcases hc with rfl | rfl
  · refine wp_seq (wp_region ?_)
    refine sx_q _ _ (.agg Z3) rfl rfl rfl (by decide) hX rfl rfl fun a hX => ?_
    refine sx_st _ 0 ob_ 0 _ Z3 rfl rfl rfl hX rfl (by simp) (hop_storeN sz_25 rfl rfl rfl rfl) fun ρ H w hX => ?_
    refine sx_q _ _ ErrForm rfl rfl rfl (by decide) hX rfl rfl fun a hX => ?_
    exact fin rfl rfl hX
  · refine wp_seq (wp_region ?_)
    refine sx_q _ _ (.agg Z3) rfl rfl rfl (by decide) hX rfl rfl fun a hX => ?_
    refine sx_st _ 0 ob_ 0 _ Z3 rfl rfl rfl hX rfl (by simp) (hop_storeN sz_25 rfl rfl rfl rfl) fun ρ H w hX => ?_
    refine sx_q _ _ ErrForm rfl rfl rfl (by decide) hX rfl rfl fun a hX => ?_
    exact fin rfl rfl hX
end Go.Vex
namespace Go.Vex
open Go.Proofs
set_option maxRecDepth 100000
variable {ρ ρ0 : Rho} {H H0 : Hp} {w w0 : World} {a : Act} {Q : Exit → Act → World → Prop} {Wr : Nat → Prop}
/-- Behind the header. -/
noncomputable def parse2 (s : List Nat) : Option Img.Im :=
  let m := numV s false
  let c := cntV m.2.1 m.2.2 16
  let cs := cellsV c.1.toNat [] c.2.1 c.2.2
  let r := cntV cs.2.1 cs.2.2 8
  let rs := rowsV r.1.toNat [] r.2.1 r.2.2
  if rs.2.2 = true ∨ rs.2.1 ≠ [] then none else
  if Img.tchk ⟨rs.1, m.1, cs.1⟩ ≠ 0 then none else some ⟨rs.1, m.1, cs.1⟩
theorem takeV_len12 (b : List Nat) (h : (takeV b false 12).1 = Img.hdr) : (takeV b false 12).2.2 = false := by
  unfold takeV at h ⊢
  split
  · rename_i hc; rw [if_pos hc] at h; cases h
  · rfl
theorem parse_1 (b : List Nat) (h : (takeV b false 12).1 ≠ Img.hdr) : parse b = none := by unfold parse; simp only; rw [if_pos h]
theorem parse_2 (b : List Nat) (h : (takeV b false 12).1 = Img.hdr) : parse b = parse2 (takeV b false 12).2.1 := by
  unfold parse parse2
  simp only
  rw [if_neg (by simp [h]), takeV_len12 b h]
theorem cellsV_len : ∀ (k : Nat) (acc : List (Int × Int)) (s : List Nat) (bad : Bool), (cellsV k acc s bad).2.1.length ≤ s.length := by
  intro k
  induction k with
  | zero => intro acc s bad; exact Nat.le_refl _
  | succ k ih =>
    intro acc s bad
    have h1 : (numV s bad).2.1.length ≤ s.length := takeV_len s bad 8
    have h2 : (numV (numV s bad).2.1 (numV s bad).2.2).2.1.length ≤ (numV s bad).2.1.length := takeV_len _ _ 8
    have := ih (acc ++ [((numV s bad).1, (numV (numV s bad).2.1 (numV s bad).2.2).1)]) (numV (numV s bad).2.1 (numV s bad).2.2).2.1 (numV (numV s bad).2.1 (numV s bad).2.2).2.2
    show (cellsV k _ _ _).2.1.length ≤ _
    omega
theorem cellsV_cnt : ∀ (k : Nat) (acc : List (Int × Int)) (s : List Nat) (bad : Bool), (cellsV k acc s bad).1.length = acc.length + k := by
  intro k
  induction k with
  | zero => intro acc s bad; rfl
  | succ k ih =>
    intro acc s bad
    show (cellsV k _ _ _).1.length = _
    rw [ih]; simp; omega
theorem rowsV_good : ∀ (k : Nat) (acc : List (List Img.Op)) (s : List Nat) (bad : Bool), (∀ r ∈ acc, Img.Good r) → (∀ r ∈ (rowsV k acc s bad).1, Img.Good r) ∧ (rowsV k acc s bad).1.length ≤ acc.length + k := by
  intro k
  induction k with
  | zero => intro acc s bad h; exact ⟨h, Nat.le_refl _⟩
  | succ k ih =>
    intro acc s bad h
    unfold rowsV
    simp only
    cases hd : decIsa (takeV (cntV s bad 1).2.1 (cntV s bad 1).2.2 (cntV s bad 1).1).1 with
    | none => exact ⟨h, by show acc.length ≤ _; omega⟩
    | some r =>
      simp only
      split
      · exact ⟨h, by show acc.length ≤ _; omega⟩
      · obtain ⟨h1, h2⟩ := ih (acc ++ [r]) _ _ (fun q hq => by
          rcases List.mem_append.1 hq with hq | hq
          · exact h q hq
          · rw [List.mem_singleton.1 hq]; exact (decIsa_inv hd).1)
        refine ⟨h1, ?_⟩
        simp at h2; omega
theorem idec_end (bs : List Nat) (mem : Int) (rl : List (List Img.Op)) (cl : List (Int × Int)) (s6 : List Nat) (b6 : Bool) (p mb ob_ : Nat) {Vc Ve : AV} {Vs : List AV} {Φe Φc Φt : List (Nat × List AV)}
    (hP : parse bs = if b6 = true ∨ s6 ≠ [] then none else if Img.tchk ⟨rl, mem, cl⟩ ≠ 0 then none else some ⟨rl, mem, cl⟩) (hWf : Img.WfI ⟨rl, mem, cl⟩) (hRe : Row 2 Ve Φe cl.length (cellsC cl)) (hRc : Row 1 Vc Φc rl.length Vs) (hRs : RowsIn Φt Vs rl) (hsub : ∀ x ∈ Φe, x ∈ Φt)
    (hX : Sx Tryz.prog ρ0 H0 w0 84 No ((p, cellsRd s6 b6) :: (mb, cellsM Vc mem Ve) :: (ob_, Z3) :: (Φc ++ Φt)) (listF (S8 ob_ p mb)) ρ H a w) : d18.wp Tryz.prog (P8 bs ρ0 H0 w0) a w := by
  have sr : ∀ {Φ : List (Nat × List AV)} {F : SlF} {ρ H a w}, Sx Tryz.prog ρ0 H0 w0 84 No Φ F ρ H a w → (∀ x ∈ Φc ++ Φt, x ∈ Φ) → SlRows H Vc rl ∧ SlCells H Ve cl := fun hX hs =>
    ⟨RowsIn.sl hX hRc hRs (fun x hx => hs x (List.mem_append_left _ hx)) (fun x hx => hs x (List.mem_append_right _ hx)), Row.slc hX hRe fun x hx => hs x (List.mem_append_right _ (hsub x hx))⟩
  have pm : ∀ {F : SlF} {ρ H a w}, Sx Tryz.prog ρ0 H0 w0 84 No ((p, cellsRd s6 b6) :: (mb, cellsM Vc mem Ve) :: (ob_, Z3) :: (Φc ++ Φt)) F ρ H a w → Sx Tryz.prog ρ0 H0 w0 84 No ((ob_, Z3) :: (p, cellsRd s6 b6) :: (mb, cellsM Vc mem Ve) :: (Φc ++ Φt)) F ρ H a w := fun h => h.perm (((List.Perm.swap _ _ _).cons _).trans (List.Perm.swap _ _ _))
  refine wp_seq (wp_seq (wp_region ?_))
  refine sx_q _ _ _ rfl rfl rfl (by decide) hX rfl rfl fun a hX => ?_
  refine sx_q _ _ _ rfl rfl rfl (by decide) hX rfl rfl fun a hX => ?_
  refine sx_q _ _ _ rfl rfl rfl (by decide) hX rfl (hop_field' fz_57_1 rfl) fun a hX => ?_
  refine sx_q _ _ (.bool b6) rfl rfl rfl (by decide) hX rfl (hop_load ty_4 rfl (hX.ld 0 rfl rfl)) fun a hX => ?_
  cases b6 with
  | true =>
    rw [if_pos (.inl rfl)] at hP
    refine sx_q _ _ (.bool true) rfl rfl rfl (by decide) hX rfl rfl fun a hX => ?_
    refine sx_gskip _ _ rfl rfl rfl (by decide) hX fun a hX => ?_
    refine sx_gskip _ _ rfl rfl rfl (by decide) hX fun a hX => ?_
    refine sx_gskip _ _ rfl rfl rfl (by decide) hX fun a hX => ?_
    refine sx_gskip _ _ rfl rfl rfl (by decide) hX fun a hX => ?_
    refine sx_gskip _ _ rfl rfl rfl (by decide) hX fun a hX => ?_
    refine sx_gskip _ _ rfl rfl rfl (by decide) hX fun a hX => ?_
    refine sx_q _ _ (.bool true) rfl rfl rfl (by decide) hX rfl rfl fun a hX => ?_
    refine sx_q _ _ (.bool true) rfl rfl rfl (by decide) hX rfl rfl fun a hX => ?_
    refine sx_gskip _ _ rfl rfl rfl (by decide) hX fun a hX => ?_
    refine sx_gskip _ _ rfl rfl rfl (by decide) hX fun a hX => ?_
    refine sx_gskip _ _ rfl rfl rfl (by decide) hX fun a hX => ?_
    refine sx_q _ _ (.bool true) rfl rfl rfl (by decide) hX rfl rfl fun a hX => ?_
    exact sx_true hX rfl (idec_no bs hP _ (.inr rfl) rfl rfl (pm hX))
  | false =>
    refine sx_q _ _ (.bool false) rfl rfl rfl (by decide) hX rfl rfl fun a hX => ?_
    refine sx_gt _ _ _ rfl rfl rfl (by decide) hX rfl rfl fun a hX => ?_
    refine sx_gt _ _ _ rfl rfl rfl (by decide) hX rfl rfl fun a hX => ?_
    refine sx_gt _ _ _ rfl rfl rfl (by decide) hX rfl (hop_field' fz_57_0 rfl) fun a hX => ?_
    refine sx_gt _ _ (.str s6) rfl rfl rfl (by decide) hX rfl (hop_load ty_9 rfl (hX.ld 0 rfl rfl)) fun a hX => ?_
    refine sx_gt _ _ (.int .i64 (s6.length : Int)) rfl rfl rfl (by decide) hX rfl (hop_len_str Tryz.underlying9 rfl) fun a hX => ?_
    by_cases h6 : s6 = []
    rotate_left
    · have hlt : (0 : Int) < (s6.length : Int) := by have := List.length_pos_iff.2 h6; omega
      rw [if_pos (.inr h6)] at hP
      refine sx_gt _ _ (.bool true) rfl rfl rfl (by decide) hX rfl (hop_bin rfl rfl (bin_gtr (decide_eq_true hlt))) fun a hX => ?_
      refine sx_q _ _ (.bool true) rfl rfl rfl (by decide) hX rfl rfl fun a hX => ?_
      refine sx_q _ _ (.bool true) rfl rfl rfl (by decide) hX rfl rfl fun a hX => ?_
      refine sx_gskip _ _ rfl rfl rfl (by decide) hX fun a hX => ?_
      refine sx_gskip _ _ rfl rfl rfl (by decide) hX fun a hX => ?_
      refine sx_gskip _ _ rfl rfl rfl (by decide) hX fun a hX => ?_
      refine sx_q _ _ (.bool true) rfl rfl rfl (by decide) hX rfl rfl fun a hX => ?_
      exact sx_true hX rfl (idec_no bs hP _ (.inr rfl) rfl rfl (pm hX))
    · subst h6
      rw [if_neg (by simp)] at hP
      have hlt : ¬ (0 : Int) < ((([] : List Nat).length : Nat) : Int) := by simp
      refine sx_gt _ _ (.bool false) rfl rfl rfl (by decide) hX rfl (hop_bin rfl rfl (bin_gtr (decide_eq_false hlt))) fun a hX => ?_
      refine sx_q _ _ (.bool false) rfl rfl rfl (by decide) hX rfl rfl fun a hX => ?_
      refine sx_q _ _ (.bool false) rfl rfl rfl (by decide) hX rfl rfl fun a hX => ?_
      refine sx_gt _ _ (.agg (cellsM Vc mem Ve)) rfl rfl rfl (by decide) hX rfl (hop_loadN ty_25 rfl (hX.ldN 1 rfl (by simp) rfl)) fun a hX => ?_
      obtain ⟨hSR, hSC⟩ := sr hX fun x hx => by simp only [List.mem_cons]; exact .inr (.inr (.inr hx))
      refine sx_gpure _ _ 13 [.agg (cellsM Vc mem Ve)] (.int .i64 (Img.tchk ⟨rl, mem, cl⟩)) rfl rfl rfl (by decide) hX (hop_callf en_13 rfl) (tso_spec ⟨rl, mem, cl⟩ Vc Ve hWf hSR hSC) fun ρ H a w hX => ?_
      by_cases h0 : Img.tchk ⟨rl, mem, cl⟩ = 0
      · rw [if_neg (by simp [h0])] at hP
        refine sx_gt _ _ (.bool false) rfl rfl rfl (by decide) hX rfl (hop_bin rfl rfl (bin_neq_f h0)) fun a hX => ?_
        refine sx_q _ _ (.bool false) rfl rfl rfl (by decide) hX rfl rfl fun a hX => ?_
        refine sx_false hX rfl (wp_skip ?_)
        show d20.wp _ _ _ _
        refine wp_seq (wp_region ?_)
        refine sx_q _ _ (.agg (cellsM Vc mem Ve)) rfl rfl rfl (by decide) hX rfl (hop_loadN ty_25 rfl (hX.ldN 1 rfl (by simp) rfl)) fun a hX => ?_
        refine sx_st _ 2 ob_ 0 _ (cellsM Vc mem Ve) rfl rfl rfl hX rfl (by simp) (hop_storeN sz_25 rfl rfl rfl rfl) fun ρ H w hX => ?_
        refine sx_q _ _ (.int .i64 0) rfl rfl rfl (by decide) hX rfl rfl fun a hX => ?_
        refine sx_retc 2 3 hX rfl ty_25 rfl (hX.ldN 2 rfl (by simp) rfl) rfl ⟨hX.stays, .inl ⟨_, Vc, Ve, Φc ++ Φt, hP, rfl, ⟨Vs, Φe, Φc, hRe, hRc, hRs.mono fun x hx => List.mem_append_right _ hx, fun x hx => List.mem_append_right _ (hsub x hx), fun x hx => List.mem_append_left _ hx⟩, fun x hx => ?_, ?_⟩⟩ id
        · obtain ⟨j, hj⟩ := List.mem_iff_getElem?.1 hx
          obtain ⟨q1, q2, q3⟩ := hX.hp (j + 3) x.1 x.2 hj
          exact ⟨Nat.le_of_not_lt fun h => q3 h, q1, q2⟩
        · have := hX.nodup
          simp only [List.set_cons_succ, List.set_cons_zero, List.map_cons, List.nodup_cons] at this
          exact this.2.2.2
      · rw [if_pos h0] at hP
        refine sx_gt _ _ (.bool true) rfl rfl rfl (by decide) hX rfl (hop_bin rfl rfl (bin_neq_t h0)) fun a hX => ?_
        refine sx_q _ _ (.bool true) rfl rfl rfl (by decide) hX rfl rfl fun a hX => ?_
        exact sx_true hX rfl (idec_no bs hP _ (.inr rfl) rfl rfl (pm hX))
/-- image.Decode. -/
theorem idec_spec (bs : List Nat) (hb : ∀ c ∈ bs, c < 256) (hbl : bs.length ≤ 8388608) : Spec Tryz.prog 8 [.str bs] H (IDecR bs H) := by
  refine spec_body0 84 Tryz.func8 rfl Tryz.ntmps8 (by simp) fun ρ w a hX => ?_
  refine wp_seq (wp_region ?_)
  refine sx_new _ _ (fun b => .ptr b 0) _ rfl rfl rfl (by decide) hX (hop_alloc zc_25) fun ob_ ρ H1 a w hX => ?_
  refine sx_q _ _ _ rfl rfl rfl (by decide) hX rfl rfl fun a hX => ?_
  refine wp_seq (wp_region ?_)
  refine sx_q _ _ _ rfl rfl rfl (by decide) hX rfl rfl fun a hX => ?_
  refine sx_q _ _ (.agg (cellsRd bs false)) rfl rfl rfl (by decide) hX rfl rfl fun a hX => ?_
  refine sx_new _ _ (fun b => .ptr b 0) _ rfl rfl rfl (by decide) hX (hop_box rfl rfl) fun p ρ H1 a w hX => ?_
  refine sx_q _ _ _ rfl rfl rfl (by decide) hX rfl rfl fun a hX => ?_
  have hX := hX.keep2 1 0 (by decide) (p := (p, cellsRd bs false)) (q := (ob_, Z3)) rfl rfl
  have hX := hX.slots [(2, .ptr ob_ 0), (4, .ptr p 0)] ⟨rfl, rfl, trivial⟩
  refine wp_seq (wp_seq (wp_region ?_))
  refine sx_q _ _ _ rfl rfl rfl (by decide) hX rfl rfl fun a hX => ?_
  refine sx_turn0 _ _ 17 [.ptr p 0, .int .i64 12] rfl rfl rfl (by decide) hX (hop_callf en_17 rfl) (fun h1 h2 => take_spec p bs false 12 h1 h2) fun ρ H1 a w hX => ?_
  refine sx_q _ _ (.bool (!decide ((takeV bs false 12).1 = Img.hdr))) rfl rfl rfl (by decide) hX rfl (hop_bin rfl rfl bin_neq_str) fun a hX => ?_
  by_cases hh : (takeV bs false 12).1 = Img.hdr
  rotate_left
  · rw [decide_eq_false hh] at hX
    refine sx_true hX rfl ?_
    exact idec_no bs (parse_1 bs hh) _ (.inl rfl) rfl rfl (hX.perm (List.Perm.swap _ _ _))
  rw [decide_eq_true hh] at hX
  have hP := parse_2 bs hh
  refine sx_false hX rfl (wp_skip ?_)
  show d4.wp _ _ _ _
  have hs1 := (takeV_lt hb false 12).2
  have hl1 := takeV_len bs false 12
  rw [takeV_len12 bs hh] at hX
  generalize (takeV bs false 12).2.1 = s1 at hX hs1 hl1 hP
  unfold parse2 at hP
  refine wp_seq (wp_region ?_)
  refine sx_q _ _ _ rfl rfl rfl (by decide) hX rfl rfl fun a hX => ?_
  refine sx_turn0 _ _ 18 [.ptr p 0] rfl rfl rfl (by decide) hX (hop_callf en_18 rfl) (fun h1 h2 => rnum_spec p s1 hs1 false h1 h2) fun ρ H1 a w hX => ?_
  have hs2 := numV_lt hs1 false
  have hl2 : (numV s1 false).2.1.length ≤ s1.length := takeV_len s1 false 8
  generalize numV s1 false = m at hX hs2 hl2 hP
  obtain ⟨mem, s2, b2⟩ := m
  have hs2 : ∀ c ∈ s2, c < 256 := hs2
  have hl2 : s2.length ≤ s1.length := hl2
  have hX : Sx Tryz.prog _ _ _ 84 No [(p, cellsRd s2 b2), (ob_, Z3)] _ ρ H1 a w := hX
  refine sx_q _ _ (.agg (cellsM .nils mem .nils)) rfl rfl rfl (by decide) hX rfl rfl fun a hX => ?_
  refine sx_new _ _ (fun b => .ptr b 0) _ rfl rfl rfl (by decide) hX (hop_alloc zc_25) fun mb ρ H1 a w hX => ?_
  refine sx_st _ 2 mb 0 _ (cellsM .nils mem .nils) rfl rfl rfl hX rfl (by simp) (hop_storeN sz_25 rfl rfl rfl rfl) fun ρ H1 w hX => ?_
  have hX := hX.keep3 0 2 1 (by decide) (by decide) (by decide) (p := (p, cellsRd s2 b2)) (q := (mb, cellsM .nils mem .nils)) (r := (ob_, Z3)) rfl rfl rfl
  have hX := hX.slots (S8 ob_ p mb) ⟨rfl, rfl, rfl, trivial⟩
  refine wp_seq (wp_seq (wp_region ?_))
  refine sx_q _ _ _ rfl rfl rfl (by decide) hX rfl rfl fun a hX => ?_
  refine sx_turn0 _ _ 19 [.ptr p 0, .int .i64 ((16 : Nat) : Int)] rfl rfl rfl (by decide) hX (hop_callf en_19 rfl) (fun h1 h2 => cnt_spec p s2 hs2 (by omega) b2 16 (by decide) h1 h2) fun ρ H1 a w hX => ?_
  have hs3 := cntV_lt hs2 b2 16
  have hl3 := cntV_len s2 b2 16
  have hn3 := cntV_nn s2 b2 (each := 16)
  simp only at hP
  generalize cntV s2 b2 16 = c at hX hs3 hl3 hn3 hP
  obtain ⟨n3, s3, b3⟩ := c
  have hs3 : ∀ c ∈ s3, c < 256 := hs3
  have hl3 : s3.length ≤ s2.length := hl3
  obtain ⟨n3, rfl⟩ : ∃ n : Nat, n3 = (n : Int) := ⟨n3.toNat, by have : 0 ≤ n3 := hn3.1; omega⟩
  have hn3 : (n3 : Int) ≤ ((s2.length / 16 : Nat) : Int) := hn3.2
  have hX : Sx Tryz.prog _ _ _ 84 No ((p, cellsRd s3 b3) :: (mb, cellsM .nils mem .nils) :: (ob_, Z3) :: []) _ ρ H1 a w := hX
  refine sx_q _ _ _ rfl rfl rfl (by decide) hX rfl rfl fun a hX => ?_
  refine wp_block (LoopWp.wp ?_)
  refine idec_c p mb ob_ mem n3 0 n3 (by omega) (by have : s2.length / 16 ≤ 67108864 / 16 := Nat.div_le_div_right (by omega); omega) s3 b3 [] .nils [] ρ H1 _ w hs3 rfl (.inl ⟨rfl, rfl, rfl, rfl⟩) (hX.slots _ ⟨rfl, rfl, rfl, rfl, rfl, trivial⟩) fun Ve Φe ρ H1 a w hRe hX => ?_
  show d10.wp _ _ _ _
  have hs4 := cellsV_lt n3 [] s3 b3 hs3
  have hl4 := cellsV_len n3 [] s3 b3
  have hc4 := cellsV_cnt n3 [] s3 b3
  simp only [Int.toNat_natCast] at hP
  generalize cellsV n3 [] s3 b3 = cs at hX hs4 hl4 hP hRe hc4
  obtain ⟨cl, s4, b4⟩ := cs
  have hs4 : ∀ c ∈ s4, c < 256 := hs4
  have hl4 : s4.length ≤ s3.length := hl4
  have hX : Sx Tryz.prog _ _ _ 84 No ((p, cellsRd s4 b4) :: (mb, cellsM .nils mem Ve) :: (ob_, Z3) :: Φe) _ ρ H1 a w := hX
  have hRe : Row 2 Ve Φe cl.length (cellsC cl) := hRe
  have hc4 : cl.length = ([] : List (Int × Int)).length + n3 := hc4
  refine wp_seq (wp_seq (wp_region ?_))
  refine sx_q _ _ _ rfl rfl rfl (by decide) hX rfl rfl fun a hX => ?_
  refine sx_turn0 _ _ 19 [.ptr p 0, .int .i64 ((8 : Nat) : Int)] rfl rfl rfl (by decide) hX (hop_callf en_19 rfl) (fun h1 h2 => cnt_spec p s4 hs4 (by omega) b4 8 (by decide) h1 h2) fun ρ H1 a w hX => ?_
  have hs5 := cntV_lt hs4 b4 8
  have hl5 := cntV_len s4 b4 8
  have hn5 := cntV_nn s4 b4 (each := 8)
  generalize cntV s4 b4 8 = c at hX hs5 hl5 hn5 hP
  obtain ⟨n5, s5, b5⟩ := c
  have hs5 : ∀ c ∈ s5, c < 256 := hs5
  have hl5 : s5.length ≤ s4.length := hl5
  obtain ⟨n5, rfl⟩ : ∃ n : Nat, n5 = (n : Int) := ⟨n5.toNat, by have : 0 ≤ n5 := hn5.1; omega⟩
  have hn5 : (n5 : Int) ≤ ((s4.length / 8 : Nat) : Int) := hn5.2
  have hn5' : n5 ≤ 1048576 := by have : s4.length / 8 ≤ 8388608 / 8 := Nat.div_le_div_right (by omega); omega
  have hX : Sx Tryz.prog _ _ _ 84 No ((p, cellsRd s5 b5) :: (mb, cellsM .nils mem Ve) :: (ob_, Z3) :: ([] ++ Φe)) _ ρ H1 a w := hX
  refine sx_q _ _ _ rfl rfl rfl (by decide) hX rfl rfl fun a hX => ?_
  refine wp_block (LoopWp.wp ?_)
  refine idec_r p mb ob_ mem Ve n5 0 n5 (by omega) (by omega) s5 b5 [] [] .nils [] Φe ρ H1 _ w hs5 (by omega) rfl (.inl ⟨rfl, rfl, rfl, rfl⟩) ⟨rfl, fun i r h => by simp at h⟩ (hX.slots _ ⟨rfl, rfl, rfl, rfl, rfl, trivial⟩) fun Vs Vc Φc Φt ρ H1 a w hsub hRc hRs hX => ?_
  show d18.wp _ _ _ _
  have hg6 := rowsV_good n5 [] s5 b5 (by intro r h; exact (List.not_mem_nil h).elim)
  simp only [Int.toNat_natCast] at hP
  generalize rowsV n5 [] s5 b5 = rs at hX hP hRc hRs hg6
  obtain ⟨rl, s6, b6⟩ := rs
  have hX : Sx Tryz.prog _ _ _ 84 No ((p, cellsRd s6 b6) :: (mb, cellsM Vc mem Ve) :: (ob_, Z3) :: (Φc ++ Φt)) _ ρ H1 a w := hX
  have hRc : Row 1 Vc Φc rl.length Vs := hRc
  have hRs : RowsIn Φt Vs rl := hRs
  have hg6 : (∀ r ∈ rl, Img.Good r) ∧ rl.length ≤ ([] : List (List Img.Op)).length + n5 := hg6
  have hWf : Img.WfI ⟨rl, mem, cl⟩ := by
    refine ⟨fun l hl => ⟨fun o ho => ((hg6.1 l hl).2 o ho).2, by have := (hg6.1 l hl).1; omega⟩, ?_, ?_⟩
    · show rl.length ≤ _
      have := hg6.2
      simp at this; omega
    · show cl.length ≤ _
      simp at hc4; omega
  exact idec_end bs mem rl cl s6 b6 p mb ob_ hP hWf hRe hRc hRs hsub hX
end Go.Vex
