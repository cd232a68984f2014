/-
  Bytes as rows of operations: the walk and the plain law.
  No condition.
-/
import Derived.Test.YtmpabjogookkpaaGreatBkB
import Derived.Test.YtmpabjogookkpaaGreatVxI
import Derived.Test.YtmpabjogookkpaaGreatBkA
import Derived.Test.YtmpabjogookkpaaGreatVxJ
set_option linter.unusedVariables false
namespace Go.Vex
open Go.Proofs
set_option maxRecDepth 100000
theorem ix_9 : ixKind Tryz.prog 9 = some .strg := by kernel_rfl
noncomputable abbrev c20 : Code := codeOf Tryz.f20
noncomputable abbrev ld20 : Code := loopB (blkB (seqL (seqR c20)))
noncomputable abbrev bd20 : Code := blkB (seqR ld20)
noncomputable abbrev y1 : Code := seqR bd20
noncomputable abbrev y2 : Code := seqR y1
noncomputable abbrev y3 : Code := seqR y2
noncomputable abbrev y4 : Code := seqR y3
noncomputable abbrev y5 : Code := seqR y4
noncomputable abbrev y6 : Code := seqR y5
noncomputable abbrev y7 : Code := seqR y6
noncomputable abbrev y8 : Code := seqR y7
noncomputable abbrev y9 : Code := seqR y8
noncomputable abbrev y10 : Code := seqR y9
noncomputable abbrev y11 : Code := seqR y10
noncomputable abbrev y12 : Code := seqR y11
theorem gl108 : (List.range 108).all (isGlob 324518553658426726783156020576255) = true := by kernel_rfl
theorem plan15 : drawPlan (opsOf (condT (seqR (seqL y8)))) = some [⟨0, [], []⟩, ⟨1, [], []⟩, ⟨2, [], []⟩, ⟨3, [], []⟩, ⟨4, [], []⟩, ⟨5, [3], []⟩, ⟨6, [], []⟩] := by kernel_rfl
variable {ρ ρ0 : Rho} {H H0 : Hp} {w w0 : World} {a : Act} {Q : Exit → Act → World → Prop}
abbrev D20 (bs : List Nat) (V : AV) (at_ need : Int) (b0 b1 : Nat) (rest : List Nat) : List (Nat × AV) := [(0, .str bs), (2, V), (3, .int .i64 at_), (5, .ptr b0 0), (6, .ptr b1 0), (8, .str rest), (9, .int .i64 need)]
/-- The operation's calc. -/
theorem dec_cal (o : Img.Op) (f : Img.Fm) (hf : f.cal = true) (bs : List Nat) (V : AV) (at_ need : Int) (c : Nat) (rest : List Nat) {b0 b1 : Nat} (Φ : List (Nat × List AV))
    (hX : Sx Tryz.prog ρ0 H0 w0 108 No ((b0, cellsOp o) :: (b1, cellsFm f) :: Φ) (listF (D20 bs V at_ need b0 b1 (c :: rest))) ρ H a w)
    (K : ∀ ρ H a w, Sx Tryz.prog ρ0 H0 w0 108 No ((b0, cellsOp { o with c := c }) :: (b1, cellsFm f) :: Φ) (listF (D20 bs V at_ need b0 b1 rest)) ρ H a w → Q .normal a w) : (condT (seqR (seqL y8))).wp Tryz.prog Q a w := by
  obtain ⟨H', h1, h2, h3, h4⟩ := (hX.has 0 rfl).store (i := 0 + 1) (vs := [.int .u8 (c : Int)]) (by simp [cellsOp])
  refine sx_draw fo noCall_ok 324518553658426726783156020576255 (D20 bs V at_ need b0 b1 (c :: rest)) _ _ H' hX ⟨rfl, rfl, rfl, rfl, rfl, rfl, rfl, trivial⟩ plan15
    (draw_val rfl rfl rfl rfl rfl rfl (draw_val rfl rfl rfl (hop_index_str ix_9 rfl rfl rfl) rfl rfl (draw_val rfl rfl rfl rfl rfl rfl (draw_val rfl rfl rfl (hop_slice_str Tryz.underlying9 rfl rfl (by simp)) rfl rfl
      (draw_val rfl rfl rfl (hop_field' fz_98_1 rfl) rfl rfl (draw_skip rfl rfl rfl (hop_storeN sz_96 rfl rfl rfl rfl H' h1) rfl (again_cons rfl rfl (hop_slice_str Tryz.underlying9 rfl rfl (by simp)) rfl rfl rfl)
        (draw_val rfl rfl rfl rfl rfl rfl rfl))))))) fun ρ a w hE hd hr hx => ?_
  exact K ρ H' a w (hX.turnD (k := 0) rfl hr hx (by omega) (fun c _ hc => h3 c hc) h4 (EnvS.sl gl108 hE (D20 bs V at_ need b0 b1 rest) ⟨⟨rfl, rfl⟩, ⟨rfl, rfl⟩, ⟨rfl, rfl⟩, ⟨rfl, rfl⟩, ⟨rfl, rfl⟩, ⟨rfl, rfl⟩, ⟨rfl, rfl⟩, trivial⟩) hd)
theorem plan20 : drawPlan (opsOf (condT (seqR (seqR (blkB (seqL (seqR (seqR (loopB (blkB (seqR (seqL y9)))))))))))) = some [⟨0, [], []⟩, ⟨1, [], []⟩, ⟨2, [], []⟩, ⟨3, [], []⟩, ⟨4, [], []⟩, ⟨5, [], []⟩, ⟨6, [4], []⟩, ⟨7, [], []⟩] := by kernel_rfl
theorem ix_109 : ixKind Tryz.prog 109 = some (.arr 3 1 false) := by kernel_rfl
theorem zc_109 : zeroCells Tryz.prog 109 = some [.nilp, .nilp, .nilp] := by kernel_rfl
theorem sz_108 : size Tryz.prog 108 = some 1 := by kernel_rfl
noncomputable abbrev rb20 : Code := loopB (blkB (seqR (seqL y9)))
abbrev P20 (b0 : Nat) : AV := .agg [.ptr b0 (0 + 2), .ptr b0 (0 + 3), .ptr b0 (0 + 4)]
abbrev G20 (b0 : Nat) (i : Int) (bs : List Nat) (V : AV) (at_ need : Int) (b1 : Nat) (rest : List Nat) : List (Nat × AV) := (64, P20 b0) :: (65, .int .i64 i) :: D20 bs V at_ need b0 b1 rest
theorem dec_l3 (f : Img.Fm) (bs : List Nat) (V : AV) (at_ need : Int) (p : Img.Op × List Nat) {b0 b1 : Nat} (Φ : List (Nat × List AV)) (_ : f.regs - 3 ≤ p.2.length)
    (hX : Sx Tryz.prog ρ0 H0 w0 108 No ((b0, cellsOp p.1) :: (b1, cellsFm f) :: Φ) (listF (G20 b0 3 bs V at_ need b1 p.2)) ρ H a w)
    (K : ∀ ρ H a w, Sx Tryz.prog ρ0 H0 w0 108 No ((b0, cellsOp p.1) :: (b1, cellsFm f) :: Φ) (listF (D20 bs V at_ need b0 b1 p.2)) ρ H a w → Q .normal a w) : LoopWp Tryz.prog rb20 (Exit.inBlock 2 Q) a w := by
  refine LoopWp.unroll (wp_seq (wp_region ?_))
  refine sx_q _ _ _ rfl rfl rfl (by decide) hX rfl (by first | exact hop_bin rfl rfl (bin_lss (by first | exact decide_eq_true (by assumption) | exact decide_eq_false (by assumption))) | rfl) fun a hX => ?_
  refine wp_seq (sx_false hX rfl (wp_exit ?_))
  refine then_exit (then_exit (inBlock_hit ?_))
  exact K ρ H _ w (hX.slots _ ⟨rfl, rfl, rfl, rfl, rfl, rfl, rfl, trivial⟩)
theorem dec_l2 (f : Img.Fm) (bs : List Nat) (V : AV) (at_ need : Int) (p : Img.Op × List Nat) {b0 b1 : Nat} (Φ : List (Nat × List AV)) (hlen : f.regs - 2 ≤ p.2.length)
    (hX : Sx Tryz.prog ρ0 H0 w0 108 No ((b0, cellsOp p.1) :: (b1, cellsFm f) :: Φ) (listF (G20 b0 2 bs V at_ need b1 p.2)) ρ H a w)
    (K : ∀ ρ H a w, Sx Tryz.prog ρ0 H0 w0 108 No ((b0, cellsOp (Img.stepR f 2 p).1) :: (b1, cellsFm f) :: Φ) (listF (D20 bs V at_ need b0 b1 (Img.stepR f 2 p).2)) ρ H a w → Q .normal a w) : LoopWp Tryz.prog rb20 (Exit.inBlock 2 Q) a w := by
  refine LoopWp.unroll (wp_seq (wp_region ?_))
  refine sx_q _ _ _ rfl rfl rfl (by decide) hX rfl (by first | exact hop_bin rfl rfl (bin_lss (by first | exact decide_eq_true (by assumption) | exact decide_eq_false (by assumption))) | rfl) fun a hX => ?_
  refine wp_seq (sx_true hX rfl (wp_skip ?_))
  refine wp_seq (wp_block (wp_seq (wp_region ?_)))
  refine sx_q _ _ _ rfl rfl rfl (by decide) hX rfl rfl fun a hX => ?_
  refine sx_q _ _ _ rfl rfl rfl (by decide) hX rfl (hop_index_arr ix_109 rfl rfl rfl rfl) fun a hX => ?_
  refine sx_q _ _ _ rfl rfl rfl (by decide) hX rfl rfl fun a hX => ?_
  refine sx_q _ _ _ rfl rfl rfl (by decide) hX rfl rfl fun a hX => ?_
  refine wp_seq (wp_region ?_)
  by_cases h1 : (2 : Int) < (f.regs : Int)
  all_goals refine sx_q _ _ _ rfl rfl rfl (by decide) hX rfl rfl fun a hX => ?_
  all_goals refine sx_q _ _ _ rfl rfl rfl (by decide) hX rfl (hop_field' fz_103_1 rfl) fun a hX => ?_
  all_goals refine sx_q _ _ _ rfl rfl rfl (by decide) hX rfl (by first | exact hop_load ty_3 rfl (hX.ld 0 rfl rfl) | exact hop_load ty_3 rfl (hX.ld 1 rfl rfl) | exact hop_load ty_3 rfl (hX.ld 2 rfl rfl)) fun a hX => ?_
  all_goals refine sx_q _ _ _ rfl rfl rfl (by decide) hX rfl (by first | exact hop_bin rfl rfl (bin_lss (by first | exact decide_eq_true (by assumption) | exact decide_eq_false (by assumption))) | rfl) fun a hX => ?_
  · refine sx_true hX rfl ?_
    obtain ⟨c, r', hp⟩ : ∃ c r', p.2 = c :: r' := by
      cases hp : p.2 with
      | nil => rw [hp] at hlen; simp at hlen; omega
      | cons c r' => exact ⟨c, r', rfl⟩
    have hst : Img.stepR f 2 p = (Img.setR p.1 2 c, r') := by unfold Img.stepR; rw [if_pos (by omega), hp]; rfl
    rw [hp] at hX
    obtain ⟨H', g1, g2, g3, g4⟩ := (hX.has 0 rfl).store (i := 0 + 4) (vs := [.int .u8 (c : Int)]) (by simp [cellsOp])
    refine sx_draw fo noCall_ok 324518553658426726783156020576255 ((11, .ptr b0 (0 + 4)) :: G20 b0 2 bs V at_ need b1 (c :: r')) _ _ H' hX ⟨rfl, rfl, rfl, rfl, rfl, rfl, rfl, rfl, rfl, rfl, trivial⟩ plan20
      (draw_val rfl rfl rfl rfl rfl rfl (draw_val rfl rfl rfl rfl rfl rfl (draw_val rfl rfl rfl (hop_index_str ix_9 rfl rfl rfl) rfl rfl (draw_val rfl rfl rfl rfl rfl rfl (draw_val rfl rfl rfl (hop_slice_str Tryz.underlying9 rfl rfl (by simp)) rfl rfl
        (draw_val rfl rfl rfl rfl rfl rfl (draw_skip rfl rfl rfl (hop_storeN sz_5 rfl rfl rfl rfl H' g1) rfl (again_cons rfl rfl (hop_slice_str Tryz.underlying9 rfl rfl (by simp)) rfl rfl rfl)
          (draw_val rfl rfl rfl rfl rfl rfl rfl)))))))) fun ρ a w hE hd hr hx => ?_
    have hX := hX.turnD (k := 0) (cs' := cellsOp (Img.setR p.1 2 c)) rfl hr hx (by omega) (fun c _ hc => g3 c hc) g4 (EnvS.sl gl108 hE (G20 b0 2 bs V at_ need b1 r') ⟨⟨rfl, rfl⟩, ⟨rfl, rfl⟩, ⟨rfl, rfl⟩, ⟨rfl, rfl⟩, ⟨rfl, rfl⟩, ⟨rfl, rfl⟩, ⟨rfl, rfl⟩, ⟨rfl, rfl⟩, ⟨rfl, rfl⟩, trivial⟩) hd
    show ((seqR (seqR (seqR rb20))).wp _ _ _ _)
    refine wp_region ?_
    refine sx_q _ _ _ rfl rfl rfl (by decide) hX rfl (hop_bin rfl rfl bin_add) fun a hX => ?_
    refine sx_q _ _ _ rfl rfl rfl (by decide) hX rfl rfl fun a hX => ?_
    exact dec_l3 f bs V at_ need (Img.stepR f 2 p) Φ (by rw [hst]; rw [hp] at hlen; simp at hlen ⊢; omega) (by rw [hst]; exact hX.slots _ ⟨rfl, rfl, rfl, rfl, rfl, rfl, rfl, rfl, rfl, trivial⟩) K
  · refine sx_false hX rfl (wp_skip ?_)
    have hst : Img.stepR f 2 p = p := by unfold Img.stepR; rw [if_neg (by omega)]
    show ((seqR (seqR (seqR rb20))).wp _ _ _ _)
    refine wp_region ?_
    refine sx_q _ _ _ rfl rfl rfl (by decide) hX rfl (hop_bin rfl rfl bin_add) fun a hX => ?_
    refine sx_q _ _ _ rfl rfl rfl (by decide) hX rfl rfl fun a hX => ?_
    exact dec_l3 f bs V at_ need (Img.stepR f 2 p) Φ (by rw [hst]; omega) (by rw [hst]; exact hX.slots _ ⟨rfl, rfl, rfl, rfl, rfl, rfl, rfl, rfl, rfl, trivial⟩) K
theorem dec_l1 (f : Img.Fm) (bs : List Nat) (V : AV) (at_ need : Int) (p : Img.Op × List Nat) {b0 b1 : Nat} (Φ : List (Nat × List AV)) (hlen : f.regs - 1 ≤ p.2.length)
    (hX : Sx Tryz.prog ρ0 H0 w0 108 No ((b0, cellsOp p.1) :: (b1, cellsFm f) :: Φ) (listF (G20 b0 1 bs V at_ need b1 p.2)) ρ H a w)
    (K : ∀ ρ H a w, Sx Tryz.prog ρ0 H0 w0 108 No ((b0, cellsOp (Img.stepR f 2 (Img.stepR f 1 p)).1) :: (b1, cellsFm f) :: Φ) (listF (D20 bs V at_ need b0 b1 (Img.stepR f 2 (Img.stepR f 1 p)).2)) ρ H a w → Q .normal a w) : LoopWp Tryz.prog rb20 (Exit.inBlock 2 Q) a w := by
  refine LoopWp.unroll (wp_seq (wp_region ?_))
  refine sx_q _ _ _ rfl rfl rfl (by decide) hX rfl (by first | exact hop_bin rfl rfl (bin_lss (by first | exact decide_eq_true (by assumption) | exact decide_eq_false (by assumption))) | rfl) fun a hX => ?_
  refine wp_seq (sx_true hX rfl (wp_skip ?_))
  refine wp_seq (wp_block (wp_seq (wp_region ?_)))
  refine sx_q _ _ _ rfl rfl rfl (by decide) hX rfl rfl fun a hX => ?_
  refine sx_q _ _ _ rfl rfl rfl (by decide) hX rfl (hop_index_arr ix_109 rfl rfl rfl rfl) fun a hX => ?_
  refine sx_q _ _ _ rfl rfl rfl (by decide) hX rfl rfl fun a hX => ?_
  refine sx_q _ _ _ rfl rfl rfl (by decide) hX rfl rfl fun a hX => ?_
  refine wp_seq (wp_region ?_)
  by_cases h1 : (1 : Int) < (f.regs : Int)
  all_goals refine sx_q _ _ _ rfl rfl rfl (by decide) hX rfl rfl fun a hX => ?_
  all_goals refine sx_q _ _ _ rfl rfl rfl (by decide) hX rfl (hop_field' fz_103_1 rfl) fun a hX => ?_
  all_goals refine sx_q _ _ _ rfl rfl rfl (by decide) hX rfl (by first | exact hop_load ty_3 rfl (hX.ld 0 rfl rfl) | exact hop_load ty_3 rfl (hX.ld 1 rfl rfl) | exact hop_load ty_3 rfl (hX.ld 2 rfl rfl)) fun a hX => ?_
  all_goals refine sx_q _ _ _ rfl rfl rfl (by decide) hX rfl (by first | exact hop_bin rfl rfl (bin_lss (by first | exact decide_eq_true (by assumption) | exact decide_eq_false (by assumption))) | rfl) fun a hX => ?_
  · refine sx_true hX rfl ?_
    obtain ⟨c, r', hp⟩ : ∃ c r', p.2 = c :: r' := by
      cases hp : p.2 with
      | nil => rw [hp] at hlen; simp at hlen; omega
      | cons c r' => exact ⟨c, r', rfl⟩
    have hst : Img.stepR f 1 p = (Img.setR p.1 1 c, r') := by unfold Img.stepR; rw [if_pos (by omega), hp]; rfl
    rw [hp] at hX
    obtain ⟨H', g1, g2, g3, g4⟩ := (hX.has 0 rfl).store (i := 0 + 3) (vs := [.int .u8 (c : Int)]) (by simp [cellsOp])
    refine sx_draw fo noCall_ok 324518553658426726783156020576255 ((11, .ptr b0 (0 + 3)) :: G20 b0 1 bs V at_ need b1 (c :: r')) _ _ H' hX ⟨rfl, rfl, rfl, rfl, rfl, rfl, rfl, rfl, rfl, rfl, trivial⟩ plan20
      (draw_val rfl rfl rfl rfl rfl rfl (draw_val rfl rfl rfl rfl rfl rfl (draw_val rfl rfl rfl (hop_index_str ix_9 rfl rfl rfl) rfl rfl (draw_val rfl rfl rfl rfl rfl rfl (draw_val rfl rfl rfl (hop_slice_str Tryz.underlying9 rfl rfl (by simp)) rfl rfl
        (draw_val rfl rfl rfl rfl rfl rfl (draw_skip rfl rfl rfl (hop_storeN sz_5 rfl rfl rfl rfl H' g1) rfl (again_cons rfl rfl (hop_slice_str Tryz.underlying9 rfl rfl (by simp)) rfl rfl rfl)
          (draw_val rfl rfl rfl rfl rfl rfl rfl)))))))) fun ρ a w hE hd hr hx => ?_
    have hX := hX.turnD (k := 0) (cs' := cellsOp (Img.setR p.1 1 c)) rfl hr hx (by omega) (fun c _ hc => g3 c hc) g4 (EnvS.sl gl108 hE (G20 b0 1 bs V at_ need b1 r') ⟨⟨rfl, rfl⟩, ⟨rfl, rfl⟩, ⟨rfl, rfl⟩, ⟨rfl, rfl⟩, ⟨rfl, rfl⟩, ⟨rfl, rfl⟩, ⟨rfl, rfl⟩, ⟨rfl, rfl⟩, ⟨rfl, rfl⟩, trivial⟩) hd
    show ((seqR (seqR (seqR rb20))).wp _ _ _ _)
    refine wp_region ?_
    refine sx_q _ _ _ rfl rfl rfl (by decide) hX rfl (hop_bin rfl rfl bin_add) fun a hX => ?_
    refine sx_q _ _ _ rfl rfl rfl (by decide) hX rfl rfl fun a hX => ?_
    exact dec_l2 f bs V at_ need (Img.stepR f 1 p) Φ (by rw [hst]; rw [hp] at hlen; simp at hlen ⊢; omega) (by rw [hst]; exact hX.slots _ ⟨rfl, rfl, rfl, rfl, rfl, rfl, rfl, rfl, rfl, trivial⟩) K
  · refine sx_false hX rfl (wp_skip ?_)
    have hst : Img.stepR f 1 p = p := by unfold Img.stepR; rw [if_neg (by omega)]
    show ((seqR (seqR (seqR rb20))).wp _ _ _ _)
    refine wp_region ?_
    refine sx_q _ _ _ rfl rfl rfl (by decide) hX rfl (hop_bin rfl rfl bin_add) fun a hX => ?_
    refine sx_q _ _ _ rfl rfl rfl (by decide) hX rfl rfl fun a hX => ?_
    exact dec_l2 f bs V at_ need (Img.stepR f 1 p) Φ (by rw [hst]; omega) (by rw [hst]; exact hX.slots _ ⟨rfl, rfl, rfl, rfl, rfl, rfl, rfl, rfl, rfl, trivial⟩) K
theorem dec_l0 (f : Img.Fm) (bs : List Nat) (V : AV) (at_ need : Int) (p : Img.Op × List Nat) {b0 b1 : Nat} (Φ : List (Nat × List AV)) (hlen : f.regs - 0 ≤ p.2.length)
    (hX : Sx Tryz.prog ρ0 H0 w0 108 No ((b0, cellsOp p.1) :: (b1, cellsFm f) :: Φ) (listF (G20 b0 0 bs V at_ need b1 p.2)) ρ H a w)
    (K : ∀ ρ H a w, Sx Tryz.prog ρ0 H0 w0 108 No ((b0, cellsOp (Img.stepR f 2 (Img.stepR f 1 (Img.stepR f 0 p))).1) :: (b1, cellsFm f) :: Φ) (listF (D20 bs V at_ need b0 b1 (Img.stepR f 2 (Img.stepR f 1 (Img.stepR f 0 p))).2)) ρ H a w → Q .normal a w) : LoopWp Tryz.prog rb20 (Exit.inBlock 2 Q) a w := by
  refine LoopWp.unroll (wp_seq (wp_region ?_))
  refine sx_q _ _ _ rfl rfl rfl (by decide) hX rfl (by first | exact hop_bin rfl rfl (bin_lss (by first | exact decide_eq_true (by assumption) | exact decide_eq_false (by assumption))) | rfl) fun a hX => ?_
  refine wp_seq (sx_true hX rfl (wp_skip ?_))
  refine wp_seq (wp_block (wp_seq (wp_region ?_)))
  refine sx_q _ _ _ rfl rfl rfl (by decide) hX rfl rfl fun a hX => ?_
  refine sx_q _ _ _ rfl rfl rfl (by decide) hX rfl (hop_index_arr ix_109 rfl rfl rfl rfl) fun a hX => ?_
  refine sx_q _ _ _ rfl rfl rfl (by decide) hX rfl rfl fun a hX => ?_
  refine sx_q _ _ _ rfl rfl rfl (by decide) hX rfl rfl fun a hX => ?_
  refine wp_seq (wp_region ?_)
  by_cases h1 : (0 : Int) < (f.regs : Int)
  all_goals refine sx_q _ _ _ rfl rfl rfl (by decide) hX rfl rfl fun a hX => ?_
  all_goals refine sx_q _ _ _ rfl rfl rfl (by decide) hX rfl (hop_field' fz_103_1 rfl) fun a hX => ?_
  all_goals refine sx_q _ _ _ rfl rfl rfl (by decide) hX rfl (by first | exact hop_load ty_3 rfl (hX.ld 0 rfl rfl) | exact hop_load ty_3 rfl (hX.ld 1 rfl rfl) | exact hop_load ty_3 rfl (hX.ld 2 rfl rfl)) fun a hX => ?_
  all_goals refine sx_q _ _ _ rfl rfl rfl (by decide) hX rfl (by first | exact hop_bin rfl rfl (bin_lss (by first | exact decide_eq_true (by assumption) | exact decide_eq_false (by assumption))) | rfl) fun a hX => ?_
  · refine sx_true hX rfl ?_
    obtain ⟨c, r', hp⟩ : ∃ c r', p.2 = c :: r' := by
      cases hp : p.2 with
      | nil => rw [hp] at hlen; simp at hlen; omega
      | cons c r' => exact ⟨c, r', rfl⟩
    have hst : Img.stepR f 0 p = (Img.setR p.1 0 c, r') := by unfold Img.stepR; rw [if_pos (by omega), hp]; rfl
    rw [hp] at hX
    obtain ⟨H', g1, g2, g3, g4⟩ := (hX.has 0 rfl).store (i := 0 + 2) (vs := [.int .u8 (c : Int)]) (by simp [cellsOp])
    refine sx_draw fo noCall_ok 324518553658426726783156020576255 ((11, .ptr b0 (0 + 2)) :: G20 b0 0 bs V at_ need b1 (c :: r')) _ _ H' hX ⟨rfl, rfl, rfl, rfl, rfl, rfl, rfl, rfl, rfl, rfl, trivial⟩ plan20
      (draw_val rfl rfl rfl rfl rfl rfl (draw_val rfl rfl rfl rfl rfl rfl (draw_val rfl rfl rfl (hop_index_str ix_9 rfl rfl rfl) rfl rfl (draw_val rfl rfl rfl rfl rfl rfl (draw_val rfl rfl rfl (hop_slice_str Tryz.underlying9 rfl rfl (by simp)) rfl rfl
        (draw_val rfl rfl rfl rfl rfl rfl (draw_skip rfl rfl rfl (hop_storeN sz_5 rfl rfl rfl rfl H' g1) rfl (again_cons rfl rfl (hop_slice_str Tryz.underlying9 rfl rfl (by simp)) rfl rfl rfl)
          (draw_val rfl rfl rfl rfl rfl rfl rfl)))))))) fun ρ a w hE hd hr hx => ?_
    have hX := hX.turnD (k := 0) (cs' := cellsOp (Img.setR p.1 0 c)) rfl hr hx (by omega) (fun c _ hc => g3 c hc) g4 (EnvS.sl gl108 hE (G20 b0 0 bs V at_ need b1 r') ⟨⟨rfl, rfl⟩, ⟨rfl, rfl⟩, ⟨rfl, rfl⟩, ⟨rfl, rfl⟩, ⟨rfl, rfl⟩, ⟨rfl, rfl⟩, ⟨rfl, rfl⟩, ⟨rfl, rfl⟩, ⟨rfl, rfl⟩, trivial⟩) hd
    show ((seqR (seqR (seqR rb20))).wp _ _ _ _)
    refine wp_region ?_
    refine sx_q _ _ _ rfl rfl rfl (by decide) hX rfl (hop_bin rfl rfl bin_add) fun a hX => ?_
    refine sx_q _ _ _ rfl rfl rfl (by decide) hX rfl rfl fun a hX => ?_
    exact dec_l1 f bs V at_ need (Img.stepR f 0 p) Φ (by rw [hst]; rw [hp] at hlen; simp at hlen ⊢; omega) (by rw [hst]; exact hX.slots _ ⟨rfl, rfl, rfl, rfl, rfl, rfl, rfl, rfl, rfl, trivial⟩) K
  · refine sx_false hX rfl (wp_skip ?_)
    have hst : Img.stepR f 0 p = p := by unfold Img.stepR; rw [if_neg (by omega)]
    show ((seqR (seqR (seqR rb20))).wp _ _ _ _)
    refine wp_region ?_
    refine sx_q _ _ _ rfl rfl rfl (by decide) hX rfl (hop_bin rfl rfl bin_add) fun a hX => ?_
    refine sx_q _ _ _ rfl rfl rfl (by decide) hX rfl rfl fun a hX => ?_
    exact dec_l1 f bs V at_ need (Img.stepR f 0 p) Φ (by rw [hst]; omega) (by rw [hst]; exact hX.slots _ ⟨rfl, rfl, rfl, rfl, rfl, rfl, rfl, rfl, rfl, trivial⟩) K
end Go.Vex
namespace Go.Vex
theorem wrap_i64 (z : Int) : IntKind.i64.wrap z = Img.wrapI z := by
  unfold Img.wrapI
  simp [IntKind.wrap, IntKind.bits, IntKind.signed]
  try omega
theorem or_nat {m b : Nat} (hm : m % 256 = 0) (hb : b < 256) : Nat.lor m b = m + b := by
  have h := Nat.two_pow_add_eq_or_of_lt (i := 8) (b := b) (by omega) (m / 256)
  have e : 2 ^ 8 * (m / 256) = m := by omega
  rw [e] at h
  exact h.symm
theorem or_low {t : TypeId} {P : Program} {a : Int} {b : Nat} (ha : a % 256 = 0) (h1 : -9223372036854775808 ≤ a) (h2 : a ≤ 9223372036854775552) (hb : b < 256) : binA P .or t (.int .i64 a) (.int .i64 (b : Int)) = some (.int .i64 (a + b)) := by
  show iteB (kEq .i64 .i64) (bitsA .or .i64 a (b : Int)) none = _
  rw [kEq_self, iteB_true]
  cases a with
  | ofNat m =>
    have hm : m % 256 = 0 := by have : ((m : Nat) : Int) % 256 = 0 := ha; omega
    have hm2 : m < 9223372036854775808 := by have : ((m : Nat) : Int) ≤ 9223372036854775552 := h2; omega
    show iteB (Nat.blt m 9223372036854775808) (iteB (Nat.blt b 9223372036854775808) (iteB true (some (AV.int .i64 (.ofNat (Nat.lor m b)))) _) _) _ = _
    have e1 : Nat.blt m 9223372036854775808 = true := by rw [blt_dec]; simp [hm2]
    have e2 : Nat.blt b 9223372036854775808 = true := by rw [blt_dec]; simp; omega
    rw [e1, e2, iteB_true, iteB_true, iteB_true, or_nat hm hb]; rfl
  | negSucc m =>
    show mkInt .i64 (IntKind.i64.wrap ((BitVec.ofInt 64 (Int.negSucc m) ||| BitVec.ofInt 64 ((b : Nat) : Int)).toNat : Int)) = _
    rw [mkInt_mk, wrap_i64]
    have hbv : (BitVec.ofInt 64 ((b : Nat) : Int)).toNat = b := by simp; omega
    have hu : ((BitVec.ofInt 64 (Int.negSucc m)).toNat : Int) = 18446744073709551616 + Int.negSucc m := by
      rw [BitVec.toNat_ofInt]
      have : Int.negSucc m = -((m : Int) + 1) := Int.negSucc_eq m
      rw [this] at h1 ⊢
      omega
    have hu2 : (BitVec.ofInt 64 (Int.negSucc m)).toNat % 256 = 0 := by omega
    rw [BitVec.toNat_or, hbv]
    have := or_nat hu2 hb
    have this : (BitVec.ofInt 64 (Int.negSucc m)).toNat ||| b = (BitVec.ofInt 64 (Int.negSucc m)).toNat + b := this
    rw [this]
    have e : Img.wrapI (((BitVec.ofInt 64 (Int.negSucc m)).toNat + b : Nat) : Int) = Int.negSucc m + (b : Int) := by
      unfold Img.wrapI
      rw [Int.natCast_add, hu]
      have : Int.negSucc m = -((m : Int) + 1) := Int.negSucc_eq m
      rw [this] at h1 ⊢
      omega
    exact congrArg (fun z => some (AV.int .i64 z)) e
theorem wrapI_low (n : Int) : Img.wrapI (n * 256) % 256 = 0 ∧ -9223372036854775808 ≤ Img.wrapI (n * 256) ∧ Img.wrapI (n * 256) ≤ 9223372036854775552 := by
  unfold Img.wrapI
  omega
theorem stepN_eq (n : Int) (b : Nat) (hb : b < 256) : Img.wrapI (n * 256) + b = Img.stepN n b := by
  unfold Img.stepN Img.wrapI
  omega
theorem bin_shl {P : Program} {t : TypeId} {k k' : IntKind} {a : Int} {y : Nat} : binA P .shl t (.int k a) (.int k' (.ofNat y)) = some (.int k (k.wrap (a * (.ofNat (Nat.pow 2 (Nat.min y k.bits)))))) := by
  show ob (some y) (fun y => shlA k a y) = _
  show mkInt k (wrapK k (Int.mul a (.ofNat (Nat.pow 2 (Nat.min y k.bits))))) = _
  rw [mkInt_mk, wrapK_eq]; rfl
end Go.Vex
namespace Go.Vex
open Go.Proofs
set_option maxRecDepth 100000
noncomputable abbrev nb20 : Code := loopB (blkB (seqR (condT (seqR (seqL y10)))))
theorem plan26 : drawPlan (opsOf (seqR (blkB (seqL (seqR (seqR nb20)))))) = some [⟨0, [], []⟩, ⟨1, [], []⟩, ⟨2, [], []⟩, ⟨3, [], []⟩, ⟨4, [], []⟩, ⟨5, [], []⟩, ⟨6, [2, 1, 0], []⟩, ⟨7, [], []⟩, ⟨8, [], []⟩, ⟨9, [], []⟩] := by kernel_rfl
variable {ρ ρ0 : Rho} {H H0 : Hp} {w w0 : World} {a : Act} {Q : Exit → Act → World → Prop}
abbrev N20 (i : Int) (bs : List Nat) (V : AV) (at_ need : Int) (b0 b1 : Nat) (rest : List Nat) : List (Nat × AV) := (82, .int .i64 i) :: D20 bs V at_ need b0 b1 rest
theorem dec_nl (f : Img.Fm) (bs : List Nat) (V : AV) (at_ need : Int) (rest : List Nat) (hb : ∀ c ∈ rest, c < 256) {b0 b1 : Nat} (Φ : List (Nat × List AV)) (k : Nat) : ∀ (i : Nat) (_ : i + k = 8) (_ : 8 ≤ rest.length) (o : Img.Op) {ρ : Rho} {H : Hp} {a : Act} {w : World}
    (hX : Sx Tryz.prog ρ0 H0 w0 108 No ((b0, cellsOp o) :: (b1, cellsFm f) :: Φ) (listF (N20 (i : Int) bs V at_ need b0 b1 rest)) ρ H a w)
    (K : ∀ ρ H a w, Sx Tryz.prog ρ0 H0 w0 108 No ((b0, cellsOp { o with n := ((rest.drop i).take k).foldl Img.stepN o.n }) :: (b1, cellsFm f) :: Φ) (listF (D20 bs V at_ need b0 b1 rest)) ρ H a w → Q .normal a w), LoopWp Tryz.prog nb20 (Exit.inBlock 4 Q) a w := by
  induction k with
  | zero =>
    intro i hi hlen o ρ H a w hX K
    have hlt : ¬ ((i : Int) < 8) := by omega
    refine LoopWp.unroll (wp_seq (wp_region ?_))
    refine sx_q _ _ _ rfl rfl rfl (by decide) hX rfl (by first | exact hop_bin rfl rfl (bin_lss (by first | exact decide_eq_true (by assumption) | exact decide_eq_false (by assumption))) | rfl) fun a hX => ?_
    refine wp_seq (sx_false hX rfl (wp_exit ?_))
    refine then_exit (then_exit (inBlock_hit ?_))
    exact K ρ H _ w (hX.slots _ ⟨rfl, rfl, rfl, rfl, rfl, rfl, rfl, trivial⟩)
  | succ k ih =>
    intro i hi hlen o ρ H a w hX K
    have hlt : (i : Int) < 8 := by omega
    refine LoopWp.unroll (wp_seq (wp_region ?_))
    refine sx_q _ _ _ rfl rfl rfl (by decide) hX rfl (by first | exact hop_bin rfl rfl (bin_lss (by first | exact decide_eq_true (by assumption) | exact decide_eq_false (by assumption))) | rfl) fun a hX => ?_
    refine wp_seq (sx_true hX rfl (wp_skip ?_))
    refine wp_seq (wp_block (wp_seq (wp_region ?_)))
    refine sx_q _ _ _ rfl rfl rfl (by decide) hX rfl rfl fun a hX => ?_
    refine sx_q _ _ _ rfl rfl rfl (by decide) hX rfl rfl fun a hX => ?_
    obtain ⟨c, hc⟩ : ∃ c, rest[i]? = some c := ⟨rest[i]'(by omega), by simp⟩
    have hc2 : c < 256 := hb c (List.mem_of_getElem? hc)
    obtain ⟨w1, w2, w3⟩ := wrapI_low o.n
    have hk : Img.stepN o.n c = Img.wrapI (o.n * 256) + (c : Int) := (stepN_eq o.n c hc2).symm
    obtain ⟨H', g1, g2, g3, g4⟩ := (hX.has 0 rfl).store (i := 0 + 5) (vs := [.int .i64 (Img.stepN o.n c)]) (by simp [cellsOp])
    refine sx_draw fo noCall_ok 324518553658426726783156020576255 ((12, .int .i64 (i : Int)) :: N20 (i : Int) bs V at_ need b0 b1 rest) _ _ H' hX ⟨rfl, rfl, rfl, rfl, rfl, rfl, rfl, rfl, rfl, trivial⟩ plan26
      (draw_val rfl rfl rfl (hop_field' fz_98_5 rfl) rfl rfl (draw_val rfl rfl rfl (hop_load ty_2 rfl (hX.ld 0 rfl rfl)) rfl rfl (draw_val rfl rfl rfl (hop_bin rfl rfl (bin_shl.trans (congrArg (fun z => some (AV.int .i64 z)) (wrap_i64 _)))) rfl rfl
        (draw_val rfl rfl rfl rfl rfl rfl (draw_val rfl rfl rfl rfl rfl rfl (draw_val rfl rfl rfl (hop_index_str ix_9 rfl rfl hc) rfl rfl
          (draw_val rfl rfl rfl (hop_conv Tryz.underlying5 Tryz.underlying2 rfl) rfl (again_cons rfl rfl (hop_bin rfl rfl (bin_shl.trans (congrArg (fun z => some (AV.int .i64 z)) (wrap_i64 _)))) rfl rfl (again_cons rfl rfl (hop_load ty_2 rfl (hX.ld 0 rfl rfl)) rfl rfl (again_cons rfl rfl (hop_field' fz_98_5 rfl) rfl rfl rfl)))
            (draw_val rfl rfl rfl (hop_bin rfl rfl (V := .int .i64 (Img.stepN o.n c)) ?_) rfl rfl (draw_val rfl rfl rfl (hop_field' fz_98_5 rfl) rfl rfl (draw_skip rfl rfl rfl (hop_storeN sz_2 rfl rfl rfl rfl H' g1) rfl rfl rfl)))))))))) fun ρ a w hE hd hr hx => ?_
    · have hcw : IntKind.i64.wrap (c : Int) = (c : Int) := by rw [wrap_i64]; unfold Img.wrapI; omega
      rw [hk]
      exact (congrArg (fun z => binA Tryz.prog .or 2 (.int .i64 (Img.wrapI (o.n * 256))) (.int .i64 z)) hcw).trans (or_low w1 w2 w3 hc2)
    have hX := hX.turnD (k := 0) (cs' := cellsOp { o with n := Img.stepN o.n c }) rfl hr hx (by omega) (fun c _ hc => g3 c hc) g4 (EnvS.sl gl108 hE (N20 (i : Int) bs V at_ need b0 b1 rest) ⟨⟨rfl, rfl⟩, ⟨rfl, rfl⟩, ⟨rfl, rfl⟩, ⟨rfl, rfl⟩, ⟨rfl, rfl⟩, ⟨rfl, rfl⟩, ⟨rfl, rfl⟩, ⟨rfl, rfl⟩, trivial⟩) hd
    show ((seqR (seqR (seqR nb20))).wp _ _ _ _)
    refine wp_region ?_
    refine sx_q _ _ _ rfl rfl rfl (by decide) hX rfl (hop_bin rfl rfl bin_add) fun a hX => ?_
    refine sx_q _ _ _ rfl rfl rfl (by decide) hX rfl rfl fun a hX => ?_
    refine ih (i + 1) (by omega) hlen _ (hX.slots _ ⟨?_, rfl, rfl, rfl, rfl, rfl, rfl, rfl, trivial⟩) fun ρ H a w h => K ρ H a w ?_
    · have hiw : IntKind.i64.wrap ((i : Int) + 1) = ((i + 1 : Nat) : Int) := by rw [wrap_i64]; unfold Img.wrapI; omega
      exact congrArg (fun z => some (AV.int .i64 z)) hiw
    · have e : (rest.drop i).take (k + 1) = c :: (rest.drop (i + 1)).take k := by rw [List.drop_eq_getElem?_toList_append, hc]; rfl
      rw [e]; exact h
end Go.Vex
namespace Go.Vex
open Go.Proofs
set_option maxRecDepth 100000
theorem el_45 : elemOf Tryz.prog 45 = some 98 := by kernel_rfl
theorem gr_98 : growSize Tryz.prog 98 = some 6 := by kernel_rfl
variable {ρ ρ0 : Rho} {H H0 : Hp} {w w0 : World} {a : Act} {Q : Exit → Act → World → Prop}
def opsCells (l : List Img.Op) : List AV := (l.map cellsOp).flatten
theorem opsCells_snoc (l : List Img.Op) (o : Img.Op) : opsCells (l ++ [o]) = opsCells l ++ cellsOp o := by simp [opsCells]
/-- What the rounds keep. -/
abbrev M20 (bs : List Nat) (V : AV) (at_ : Int) : List (Nat × AV) := [(0, .str bs), (2, V), (3, .int .i64 at_)]
abbrev Er20 (at_ e : Int) : List (Nat × AV) := [(2, .nils), (3, .int .i64 at_), (4, .int .i64 e)]
/-- The round's end: may the operation be? It is put to the row. -/
theorem dec_y11 (o : Img.Op) (hw : Wf o) (f : Img.Fm) (bs : List Nat) (V : AV) (l : List Img.Op) (hl : l.length ≤ 262144) (at_ need : Nat) (hat : at_ + 1 + need ≤ 4611686018427387904) (rest : List Nat) {b0 b1 : Nat} (Φr : List (Nat × List AV)) (hR : Row 6 V Φr l.length (opsCells l))
    (hX : Sx Tryz.prog ρ0 H0 w0 108 No ((b0, cellsOp o) :: (b1, cellsFm f) :: Φr) (listF (D20 bs V at_ need b0 b1 rest)) ρ H a w)
    (K : Img.okB o = true → ∀ V' Φr' ρ H a w, Row 6 V' Φr' (l ++ [o]).length (opsCells (l ++ [o])) → Sx Tryz.prog ρ0 H0 w0 108 No Φr' (listF (M20 bs V' ((at_ + 1 + need : Nat) : Int))) ρ H a w → Q .normal a w)
    (K2 : Img.okB o = false → ∀ ρ H a w, Sx Tryz.prog ρ0 H0 w0 108 No [] (listF (Er20 at_ 13)) ρ H a w → Q .ret a w) : y11.wp Tryz.prog Q a w := by
  refine wp_seq (wp_seq (wp_region ?_))
  refine sx_q _ _ (opAV o) rfl rfl rfl (by decide) hX rfl (hop_loadN ty_98 rfl (hX.ldN 0 rfl (by simp [cellsOp]) rfl)) fun a hX => ?_
  refine sx_pure _ _ 32 [opAV o] (chkAV (Img.okB o)) rfl rfl rfl (by decide) hX (hop_callf en_32 rfl) (chk_spec o hw _) fun ρ H a w hX => ?_
  cases hok : Img.okB o with
  | false =>
    rw [hok] at hX
    refine sx_q _ _ _ rfl rfl rfl (by decide) hX rfl rfl fun a hX => ?_
    refine sx_true hX rfl (wp_seq (wp_region ?_))
    refine sx_q _ _ _ rfl rfl rfl (by decide) hX rfl rfl fun a hX => ?_
    refine sx_q _ _ _ rfl rfl rfl (by decide) hX rfl rfl fun a hX => ?_
    refine sx_q _ _ _ rfl rfl rfl (by decide) hX rfl rfl fun a hX => ?_
    refine sx_q _ _ _ rfl rfl rfl (by decide) hX rfl rfl fun a hX => ?_
    exact wp_ret (K2 hok ρ H _ w (hX.keep0.slots _ ⟨rfl, rfl, rfl, trivial⟩))
  | true =>
    rw [hok] at hX
    refine sx_q _ _ _ rfl rfl rfl (by decide) hX rfl rfl fun a hX => ?_
    refine sx_false hX rfl (wp_skip ?_)
    refine wp_seq (wp_region ?_)
    refine sx_q _ _ _ rfl rfl rfl (by decide) hX rfl rfl fun a hX => ?_
    refine sx_q _ _ (opAV o) rfl rfl rfl (by decide) hX rfl (hop_loadN ty_98 rfl (hX.ldN 0 rfl (by simp [cellsOp]) rfl)) fun a hX => ?_
    refine sx_new _ _ (fun b => .slice b 0 1 (.fix 1)) (cellsOp o) rfl rfl rfl (by decide) hX (hop_bslice el_45 sz_98 zc_98 rfl rfl rfl (by decide)) fun bt ρ H a w hX => ?_
    have hl6 : H.loadN bt 0 6 = some (cellsOp o) := hX.front.ldN 0 rfl (by simp [cellsOp]) rfl
    have hX := hX.perm (Φ' := Φr ++ [(b0, cellsOp o), (b1, cellsFm f), (bt, cellsOp o)]) ((List.perm_append_comm (l₁ := [(b0, cellsOp o), (b1, cellsFm f)]) (l₂ := Φr)).append_right [(bt, cellsOp o)] |>.trans (by rw [List.append_assoc]; exact List.Perm.refl _))
    refine sx_appR _ _ 1 l.length (opsCells l) (cellsOp o) rfl rfl rfl (by decide) hX hR rfl el_45 Tryz.underlying45 rfl gr_98 rfl rfl rfl (by decide) (by omega) hl6 rfl (by decide) fun V' Φr' ρ H a w hR' hX => ?_
    refine sx_q _ _ _ rfl rfl rfl (by decide) hX rfl rfl fun a hX => ?_
    have hX := hX.left
    refine wp_region ?_
    have e1 : IntKind.i64.wrap (Int.ofNat 1 + (need : Int)) = ((1 + need : Nat) : Int) := by rw [wrap_i64]; unfold Img.wrapI; show ((1 + (need : Int)) + _) % _ - _ = _; omega
    have e2 : IntKind.i64.wrap ((at_ : Int) + ((1 + need : Nat) : Int)) = ((at_ + 1 + need : Nat) : Int) := by rw [wrap_i64]; unfold Img.wrapI; omega
    refine sx_q _ _ _ rfl rfl rfl (by decide) hX rfl rfl fun a hX => ?_
    refine sx_q _ _ _ rfl rfl rfl (by decide) hX rfl rfl fun a hX => ?_
    refine sx_q _ _ (.int .i64 ((1 + need : Nat) : Int)) rfl rfl rfl (by decide) hX rfl (by rw [← e1]; exact hop_bin rfl rfl bin_add) fun a hX => ?_
    refine sx_q _ _ (.int .i64 ((at_ + 1 + need : Nat) : Int)) rfl rfl rfl (by decide) hX rfl (by rw [← e2]; exact hop_bin rfl rfl bin_add) fun a hX => ?_
    refine sx_q _ _ _ rfl rfl rfl (by decide) hX rfl rfl fun a hX => ?_
    refine K hok V' Φr' ρ H _ w ?_ (hX.slots _ ⟨rfl, rfl, rfl, trivial⟩)
    rw [opsCells_snoc, List.length_append]; exact hR'
end Go.Vex
namespace Go.Vex
open Go.Proofs
set_option maxRecDepth 100000
variable {ρ ρ0 : Rho} {H H0 : Hp} {w w0 : World} {a : Act} {Q : Exit → Act → World → Prop}
theorem bcases (b : Bool) : b = true ∨ b = false := by cases b <;> simp
theorem dec_y10 (o : Img.Op) (f : Img.Fm) (bs : List Nat) (V : AV) (at_ need : Int) (rest : List Nat) (hb : ∀ c ∈ rest, c < 256) (hlen : f.n = true → 8 ≤ rest.length) {b0 b1 : Nat} (Φr : List (Nat × List AV))
    (hX : Sx Tryz.prog ρ0 H0 w0 108 No ((b0, cellsOp o) :: (b1, cellsFm f) :: Φr) (listF (D20 bs V at_ need b0 b1 rest)) ρ H a w)
    (K : ∀ ρ H a w, Sx Tryz.prog ρ0 H0 w0 108 No ((b0, cellsOp (Img.num8 f (o, rest))) :: (b1, cellsFm f) :: Φr) (listF (D20 bs V at_ need b0 b1 rest)) ρ H a w → y11.wp Tryz.prog Q a w) : y10.wp Tryz.prog Q a w := by
  refine wp_seq (wp_seq (wp_region ?_))
  refine sx_q _ _ _ rfl rfl rfl (by decide) hX rfl (hop_field' fz_103_2 rfl) fun a hX => ?_
  refine sx_q _ _ _ rfl rfl rfl (by decide) hX rfl (by first | exact hop_load ty_4 rfl (hX.ld 0 rfl rfl) | exact hop_load ty_4 rfl (hX.ld 1 rfl rfl) | exact hop_load ty_4 rfl (hX.ld 2 rfl rfl)) fun a hX => ?_
  rcases bcases f.n with hn | hn
  · rw [hn] at hX
    have e : Img.num8 f (o, rest) = { o with n := ((rest.drop 0).take 8).foldl Img.stepN o.n } := by unfold Img.num8; rw [hn]; rfl
    refine sx_true hX rfl (wp_seq (wp_region ?_))
    refine sx_q _ _ _ rfl rfl rfl (by decide) hX rfl rfl fun a hX => ?_
    refine wp_block (LoopWp.wp ?_)
    refine dec_nl f bs V at_ need rest hb Φr 8 0 rfl (hlen hn) o (hX.slots _ ⟨rfl, rfl, rfl, rfl, rfl, rfl, rfl, rfl, trivial⟩) fun ρ H a w hX => ?_
    rw [← e] at hX
    exact K ρ H a w hX
  · rw [hn] at hX
    have e : Img.num8 f (o, rest) = o := by unfold Img.num8; rw [hn]; rfl
    refine sx_false hX rfl (wp_skip ?_)
    rw [e] at K
    exact K ρ H _ w (hX.slots _ ⟨rfl, rfl, rfl, rfl, rfl, rfl, rfl, trivial⟩)
theorem dec_y9 (f : Img.Fm) (p : Img.Op × List Nat) (bs : List Nat) (V : AV) (at_ need : Int) (hlen : f.regs ≤ p.2.length) {b0 b1 : Nat} (Φr : List (Nat × List AV))
    (hX : Sx Tryz.prog ρ0 H0 w0 108 No ((b0, cellsOp p.1) :: (b1, cellsFm f) :: Φr) (listF (D20 bs V at_ need b0 b1 p.2)) ρ H a w)
    (K : ∀ ρ H a w, Sx Tryz.prog ρ0 H0 w0 108 No ((b0, cellsOp (Img.regs3 f p).1) :: (b1, cellsFm f) :: Φr) (listF (D20 bs V at_ need b0 b1 (Img.regs3 f p).2)) ρ H a w → y10.wp Tryz.prog Q a w) : y9.wp Tryz.prog Q a w := by
  refine wp_seq (wp_seq (wp_region ?_))
  refine sx_q _ _ _ rfl rfl rfl (by decide) hX rfl (hop_field' fz_98_2 rfl) fun a hX => ?_
  refine sx_q _ _ _ rfl rfl rfl (by decide) hX rfl (hop_field' fz_98_3 rfl) fun a hX => ?_
  refine sx_q _ _ _ rfl rfl rfl (by decide) hX rfl (hop_field' fz_98_4 rfl) fun a hX => ?_
  refine sx_q _ _ _ rfl rfl rfl (by decide) hX rfl rfl fun a hX => ?_
  refine sx_q _ _ _ rfl rfl rfl (by decide) hX rfl rfl fun a hX => ?_
  refine wp_block (LoopWp.wp ?_)
  exact dec_l0 f bs V at_ need p Φr hlen (hX.slots _ ⟨rfl, rfl, rfl, rfl, rfl, rfl, rfl, rfl, rfl, trivial⟩) K
theorem dec_y8 (f : Img.Fm) (p : Img.Op × List Nat) (bs : List Nat) (V : AV) (at_ need : Int) (hlen : f.cal = true → 1 ≤ p.2.length) {b0 b1 : Nat} (Φr : List (Nat × List AV))
    (hX : Sx Tryz.prog ρ0 H0 w0 108 No ((b0, cellsOp p.1) :: (b1, cellsFm f) :: Φr) (listF (D20 bs V at_ need b0 b1 p.2)) ρ H a w)
    (K : ∀ ρ H a w, Sx Tryz.prog ρ0 H0 w0 108 No ((b0, cellsOp (Img.cal0 f p).1) :: (b1, cellsFm f) :: Φr) (listF (D20 bs V at_ need b0 b1 (Img.cal0 f p).2)) ρ H a w → y9.wp Tryz.prog Q a w) : y8.wp Tryz.prog Q a w := by
  refine wp_seq (wp_seq (wp_region ?_))
  refine sx_q _ _ _ rfl rfl rfl (by decide) hX rfl (hop_field' fz_103_0 rfl) fun a hX => ?_
  refine sx_q _ _ _ rfl rfl rfl (by decide) hX rfl (by first | exact hop_load ty_4 rfl (hX.ld 0 rfl rfl) | exact hop_load ty_4 rfl (hX.ld 1 rfl rfl) | exact hop_load ty_4 rfl (hX.ld 2 rfl rfl)) fun a hX => ?_
  rcases bcases f.cal with hn | hn
  · obtain ⟨c, r', hp⟩ : ∃ c r', p.2 = c :: r' := by
      cases hp : p.2 with
      | nil => have := hlen hn; rw [hp] at this; simp at this
      | cons c r' => exact ⟨c, r', rfl⟩
    have e : Img.cal0 f p = ({ p.1 with c := c }, r') := by unfold Img.cal0; rw [hn, hp]; rfl
    rw [hn] at hX
    refine sx_true hX rfl ?_
    have hX := hX.slots (D20 bs V at_ need b0 b1 p.2) ⟨rfl, rfl, rfl, rfl, rfl, rfl, rfl, trivial⟩
    rw [hp] at hX
    refine dec_cal p.1 f hn bs V at_ need c r' Φr hX fun ρ H a w hX => ?_
    rw [e] at K
    exact K ρ H a w hX
  · rw [hn] at hX
    refine sx_false hX rfl (wp_skip ?_)
    have e : Img.cal0 f p = p := by unfold Img.cal0; rw [hn]; rfl
    rw [e] at K
    have hX := hX.slots (D20 bs V at_ need b0 b1 p.2) ⟨rfl, rfl, rfl, rfl, rfl, rfl, rfl, trivial⟩
    exact K ρ H _ w hX
end Go.Vex
namespace Go.Img
theorem cal0_len (f : Fm) (p : Op × List Nat) : (cal0 f p).2.length = p.2.length - (if f.cal then 1 else 0) := by
  unfold cal0; split <;> simp
theorem cal0_mem (f : Fm) (p : Op × List Nat) : ∀ c ∈ (cal0 f p).2, c ∈ p.2 := by
  intro c; unfold cal0; split
  · exact List.mem_of_mem_tail
  · exact id
theorem stepR_len (f : Fm) (i : Nat) (p : Op × List Nat) : (stepR f i p).2.length = p.2.length - (if i < f.regs then 1 else 0) := by
  unfold stepR; split <;> simp
theorem stepR_mem (f : Fm) (i : Nat) (p : Op × List Nat) : ∀ c ∈ (stepR f i p).2, c ∈ p.2 := by
  intro c; unfold stepR; split
  · exact List.mem_of_mem_tail
  · exact id
theorem regs3_len (f : Fm) (hf : f.regs ≤ 3) (p : Op × List Nat) : (regs3 f p).2.length = p.2.length - f.regs := by
  unfold regs3
  rw [stepR_len, stepR_len, stepR_len]
  split <;> split <;> split <;> omega
theorem regs3_mem (f : Fm) (p : Op × List Nat) : ∀ c ∈ (regs3 f p).2, c ∈ p.2 := fun c h => stepR_mem _ _ _ c (stepR_mem _ _ _ c (stepR_mem _ _ _ c h))
def Wb (o : Op) : Prop := o.k < 256 ∧ o.c < 256 ∧ o.a < 256 ∧ o.b < 256 ∧ o.r < 256
theorem headD_lt {l : List Nat} (h : ∀ c ∈ l, c < 256) : l.headD 0 < 256 := by
  cases l with
  | nil => simp
  | cons c l => exact h c (by simp)
theorem stepR_wb (f : Fm) (i : Nat) (p : Op × List Nat) (hp : Wb p.1) (h : ∀ c ∈ p.2, c < 256) : Wb (stepR f i p).1 := by
  unfold stepR
  split
  · have := headD_lt h
    obtain ⟨h1, h2, h3, h4, h5⟩ := hp
    unfold setR
    split <;> exact ⟨by assumption, by assumption, by assumption, by assumption, by assumption⟩
  · exact hp
theorem z256 : 0 < 256 := by decide
theorem decO_wb (f : Fm) (k : Nat) (hk : k < 256) (rest : List Nat) (h : ∀ c ∈ rest, c < 256) : Wb (decO f k rest) := by
  have h0 : Wb (cal0 f (⟨k, 0, 0, 0, 0, 0⟩, rest)).1 := by
    unfold cal0; split
    · exact ⟨hk, headD_lt h, z256, z256, z256⟩
    · exact ⟨hk, z256, z256, z256, z256⟩
  have m0 : ∀ c ∈ (cal0 f (⟨k, 0, 0, 0, 0, 0⟩, rest)).2, c < 256 := fun c hc => h c (cal0_mem _ _ c hc)
  have h1 := stepR_wb f 0 _ h0 m0
  have m1 := fun c hc => m0 c (stepR_mem f 0 _ c hc)
  have h2 := stepR_wb f 1 _ h1 m1
  have m2 := fun c hc => m1 c (stepR_mem f 1 _ c hc)
  have h3 := stepR_wb f 2 _ h2 m2
  unfold decO num8
  split
  · exact h3
  · exact h3
end Go.Img
namespace Go.Vex
open Go.Proofs
set_option maxRecDepth 100000
variable {ρ ρ0 : Rho} {H H0 : Hp} {w w0 : World} {a : Act} {Q : Exit → Act → World → Prop}
theorem hop_lenR {P : Program} {e : Env} {H : Hp} {t el : TypeId} {x : Operand} {V : AV} {sz len : Nat} {Φ : List (Nat × List AV)} {cs : List AV} (hR : Row sz V Φ len cs) (ht : P.underlying t = some (.slice el)) (hx : e x = some V) : opA P (.call ⟨.builtin .len, ⟨[x]⟩, ⟨[t]⟩⟩) e H = some (.val (.int .i64 (.ofNat len)) H) := by
  rcases hR with ⟨rfl, _, _, rfl⟩ | ⟨b, rfl, _, _⟩
  · exact hop_len_nil ht hx
  · exact hop_len ht hx
def frm (k : Nat) : Img.Fm := (Img.formN k).getD ⟨false, 0, false, 0, 0⟩
theorem formAV_frm (k : Nat) : formAV k = .tup [fmAV (frm k), .bool (Img.formN k).isSome] := by
  unfold formAV frm
  cases h : Img.formN k <;> rfl
theorem frm_regs (k : Nat) : (frm k).regs ≤ 3 := by
  unfold frm
  cases h : Img.formN k with
  | none => decide
  | some f => exact Img.formN_regs h
def rcal (f : Img.Fm) : Nat := if f.cal then 1 else 0
def rn (f : Img.Fm) : Nat := if f.n then 8 else 0
/-- What an operation needs. -/
theorem dec_y5 (f : Img.Fm) (hf : f.regs ≤ 3) (bs : List Nat) (V ok : AV) (at_ : Int) (rest : List Nat) {b0 b1 : Nat} {Φ : List (Nat × List AV)} {k1 : Nat} (hk1 : Φ[k1]? = some (b1, cellsFm f))
    (hX : Sx Tryz.prog ρ0 H0 w0 108 No Φ (listF ((7, ok) :: D20 bs V at_ f.regs b0 b1 rest)) ρ H a w)
    (K : ∀ ρ H a w, Sx Tryz.prog ρ0 H0 w0 108 No Φ (listF ((7, ok) :: D20 bs V at_ (Img.need f : Int) b0 b1 rest)) ρ H a w → y7.wp Tryz.prog Q a w) : y5.wp Tryz.prog Q a w := by
  have hld : ∀ {ρ H a w F} (i : Nat) (v : AV), (cellsFm f)[i]? = some v → Sx Tryz.prog ρ0 H0 w0 108 No Φ F ρ H a w → H.load1 b1 i = some v := fun i v hv hX => hX.ld k1 hk1 hv
  refine wp_seq (wp_seq (wp_region ?_))
  refine sx_q _ _ _ rfl rfl rfl (by decide) hX rfl (hop_field' fz_103_0 rfl) fun a hX => ?_
  refine sx_q _ _ (.bool f.cal) rfl rfl rfl (by decide) hX rfl (hop_load ty_4 rfl (hld 0 _ rfl hX)) fun a hX => ?_
  have step : ∀ (ρ H a w), Sx Tryz.prog ρ0 H0 w0 108 No Φ (listF ((7, ok) :: D20 bs V at_ ((f.regs + rcal f : Nat) : Int) b0 b1 rest)) ρ H a w → y6.wp Tryz.prog Q a w := by
    intro ρ H a w hX
    refine wp_seq (wp_seq (wp_region ?_))
    refine sx_q _ _ _ rfl rfl rfl (by decide) hX rfl (hop_field' fz_103_2 rfl) fun a hX => ?_
    refine sx_q _ _ (.bool f.n) rfl rfl rfl (by decide) hX rfl (hop_load ty_4 rfl (hld 2 _ rfl hX)) fun a hX => ?_
    rcases bcases f.n with hn | hn
    · rw [hn] at hX
      refine sx_true hX rfl (wp_region ?_)
      have hneed : Img.need f = f.regs + rcal f + 8 := by unfold Img.need rcal; rw [hn]; rfl
      have e1 : IntKind.i64.wrap (((f.regs + rcal f : Nat) : Int) + Int.ofNat 8) = (Img.need f : Int) := by rw [wrap_i64, hneed]; unfold Img.wrapI rcal; show (_ + 8 + _) % _ - _ = _; split <;> omega
      refine sx_q _ _ _ rfl rfl rfl (by decide) hX rfl rfl fun a hX => ?_
      refine sx_q _ _ (.int .i64 (Img.need f : Int)) rfl rfl rfl (by decide) hX rfl (by rw [← e1]; exact hop_bin rfl rfl bin_add) fun a hX => ?_
      refine sx_q _ _ _ rfl rfl rfl (by decide) hX rfl rfl fun a hX => ?_
      exact K ρ H _ w (hX.slots _ ⟨rfl, rfl, rfl, rfl, rfl, rfl, rfl, rfl, trivial⟩)
    · rw [hn] at hX
      refine sx_false hX rfl (wp_skip ?_)
      have hneed : Img.need f = f.regs + rcal f := by unfold Img.need rcal; rw [hn]; rfl
      rw [hneed] at K
      exact K ρ H _ w (hX.slots _ ⟨rfl, rfl, rfl, rfl, rfl, rfl, rfl, rfl, trivial⟩)
  rcases bcases f.cal with hn | hn
  · rw [hn] at hX
    refine sx_true hX rfl (wp_region ?_)
    have e1 : IntKind.i64.wrap ((f.regs : Int) + Int.ofNat 1) = ((f.regs + rcal f : Nat) : Int) := by rw [wrap_i64]; unfold Img.wrapI rcal; rw [hn]; show (_ + 1 + _) % _ - _ = ((f.regs + 1 : Nat) : Int); omega
    refine sx_q _ _ _ rfl rfl rfl (by decide) hX rfl rfl fun a hX => ?_
    refine sx_q _ _ (.int .i64 ((f.regs + rcal f : Nat) : Int)) rfl rfl rfl (by decide) hX rfl (by rw [← e1]; exact hop_bin rfl rfl bin_add) fun a hX => ?_
    refine sx_q _ _ _ rfl rfl rfl (by decide) hX rfl rfl fun a hX => ?_
    exact step ρ H _ w (hX.slots _ ⟨rfl, rfl, rfl, rfl, rfl, rfl, rfl, rfl, trivial⟩)
  · rw [hn] at hX
    refine sx_false hX rfl (wp_skip ?_)
    have e1 : f.regs + rcal f = f.regs := by unfold rcal; rw [hn]; rfl
    rw [e1] at step
    exact step ρ H _ w (hX.slots _ ⟨rfl, rfl, rfl, rfl, rfl, rfl, rfl, rfl, trivial⟩)
end Go.Vex
namespace Go.Vex
open Go.Proofs
set_option maxRecDepth 100000
variable {ρ ρ0 : Rho} {H H0 : Hp} {w w0 : World} {a : Act} {Q : Exit → Act → World → Prop}
/-- Are there bytes enough? -/
theorem dec_y7 (f : Img.Fm) (ok : Bool) (bs : List Nat) (V : AV) (at_ : Int) (need : Nat) (rest : List Nat) {b0 b1 : Nat} {Φ : List (Nat × List AV)}
    (hX : Sx Tryz.prog ρ0 H0 w0 108 No Φ (listF ((7, .bool ok) :: D20 bs V at_ need b0 b1 rest)) ρ H a w)
    (K : ok = true → need ≤ rest.length → ∀ a, Sx Tryz.prog ρ0 H0 w0 108 No Φ (listF (D20 bs V at_ need b0 b1 rest)) ρ H a w → y8.wp Tryz.prog Q a w)
    (K2 : (ok = false ∨ rest.length < need) → ∀ ρ H a w, Sx Tryz.prog ρ0 H0 w0 108 No [] (listF (Er20 at_ 13)) ρ H a w → Q .ret a w) : y7.wp Tryz.prog Q a w := by
  refine wp_seq (wp_seq (wp_region ?_))
  refine sx_q _ _ _ rfl rfl rfl (by decide) hX rfl rfl fun a hX => ?_
  rcases bcases ok with hok | hok
  · rw [hok] at hX
    refine sx_q _ _ (.bool false) rfl rfl rfl (by decide) hX rfl rfl fun a hX => ?_
    refine sx_q _ _ _ rfl rfl rfl (by decide) hX rfl rfl fun a hX => ?_
    refine sx_gt _ _ _ rfl rfl rfl (by decide) hX rfl rfl fun a hX => ?_
    refine sx_gt _ _ (.int .i64 (.ofNat rest.length)) rfl rfl rfl (by decide) hX rfl (hop_len_str Tryz.underlying9 rfl) fun a hX => ?_
    refine sx_gt _ _ _ rfl rfl rfl (by decide) hX rfl rfl fun a hX => ?_
    by_cases h1 : (rest.length : Int) < (need : Int)
    · refine sx_gt _ _ (.bool true) rfl rfl rfl (by decide) hX rfl (hop_bin rfl rfl (bin_lss (decide_eq_true h1))) fun a hX => ?_
      refine sx_q _ _ _ rfl rfl rfl (by decide) hX rfl rfl fun a hX => ?_
      refine sx_true hX rfl (wp_seq (wp_region ?_))
      refine sx_q _ _ _ rfl rfl rfl (by decide) hX rfl rfl fun a hX => ?_
      refine sx_q _ _ _ rfl rfl rfl (by decide) hX rfl rfl fun a hX => ?_
      refine sx_q _ _ _ rfl rfl rfl (by decide) hX rfl rfl fun a hX => ?_
      refine sx_q _ _ _ rfl rfl rfl (by decide) hX rfl rfl fun a hX => ?_
      exact wp_ret (K2 (.inr (by omega)) ρ H _ w (hX.keep0.slots _ ⟨rfl, rfl, rfl, trivial⟩))
    · refine sx_gt _ _ (.bool false) rfl rfl rfl (by decide) hX rfl (hop_bin rfl rfl (bin_lss (decide_eq_false h1))) fun a hX => ?_
      refine sx_q _ _ _ rfl rfl rfl (by decide) hX rfl rfl fun a hX => ?_
      refine sx_false hX rfl (wp_skip ?_)
      exact K hok (by omega) _ (hX.slots _ ⟨rfl, rfl, rfl, rfl, rfl, rfl, rfl, trivial⟩)
  · rw [hok] at hX
    refine sx_q _ _ (.bool true) rfl rfl rfl (by decide) hX rfl rfl fun a hX => ?_
    refine sx_q _ _ _ rfl rfl rfl (by decide) hX rfl rfl fun a hX => ?_
    refine sx_gf _ _ rfl rfl rfl (by decide) hX rfl fun a hX => ?_
    refine sx_gf _ _ rfl rfl rfl (by decide) hX rfl fun a hX => ?_
    refine sx_gf _ _ rfl rfl rfl (by decide) hX rfl fun a hX => ?_
    refine sx_gf _ _ rfl rfl rfl (by decide) hX rfl fun a hX => ?_
    refine sx_q _ _ _ rfl rfl rfl (by decide) hX rfl rfl fun a hX => ?_
    refine sx_true hX rfl (wp_seq (wp_region ?_))
    refine sx_q _ _ _ rfl rfl rfl (by decide) hX rfl rfl fun a hX => ?_
    refine sx_q _ _ _ rfl rfl rfl (by decide) hX rfl rfl fun a hX => ?_
    refine sx_q _ _ _ rfl rfl rfl (by decide) hX rfl rfl fun a hX => ?_
    refine sx_q _ _ _ rfl rfl rfl (by decide) hX rfl rfl fun a hX => ?_
    exact wp_ret (K2 (.inl hok) ρ H _ w (hX.keep0.slots _ ⟨rfl, rfl, rfl, trivial⟩))
/-- A round of isa.Decode. -/
theorem dec_bd (bs : List Nat) (hb : ∀ c ∈ bs, c < 256) (hbs : bs.length ≤ 2305843009213693952) (V : AV) (l : List Img.Op) (hl : l.length ≤ 262144) (at_ k : Nat) (hk : bs[at_]? = some k) (Φr : List (Nat × List AV)) (hR : Row 6 V Φr l.length (opsCells l))
    (hX : Sx Tryz.prog ρ0 H0 w0 108 No Φr (listF (M20 bs V at_)) ρ H a w)
    (K : ∀ f, Img.formN k = some f → l.length < 262144 → Img.need f ≤ (bs.drop (at_ + 1)).length → Img.okB (Img.decO f k (bs.drop (at_ + 1))) = true → ∀ V' Φr' ρ H a w, Row 6 V' Φr' (l ++ [Img.decO f k (bs.drop (at_ + 1))]).length (opsCells (l ++ [Img.decO f k (bs.drop (at_ + 1))])) →
      Sx Tryz.prog ρ0 H0 w0 108 No Φr' (listF (M20 bs V' ((at_ + 1 + Img.need f : Nat) : Int))) ρ H a w → Q .normal a w)
    (K2 : (l.length = 262144 ∨ Img.formN k = none ∨ ∃ f, Img.formN k = some f ∧ ((bs.drop (at_ + 1)).length < Img.need f ∨ Img.okB (Img.decO f k (bs.drop (at_ + 1))) = false)) → ∀ e : Int, e ≠ 0 → ∀ ρ H a w, Sx Tryz.prog ρ0 H0 w0 108 No [] (listF (Er20 at_ e)) ρ H a w → Q .ret a w) : bd20.wp Tryz.prog Q a w := by
  have hat : at_ < bs.length := (List.getElem?_eq_some_iff.1 hk).1
  have hk256 : k < 256 := hb k (List.mem_of_getElem? hk)
  have hrb : ∀ c ∈ bs.drop (at_ + 1), c < 256 := fun c hc => hb c (List.mem_of_mem_drop hc)
  refine wp_seq (wp_seq (wp_region ?_))
  refine sx_q _ _ _ rfl rfl rfl (by decide) hX rfl rfl fun a hX => ?_
  refine sx_q _ _ (.int .i64 (.ofNat l.length)) rfl rfl rfl (by decide) hX rfl (hop_lenR hR Tryz.underlying45 rfl) fun a hX => ?_
  by_cases h1 : (Int.ofNat l.length) = Int.ofNat 262144
  · refine sx_q _ _ (.bool true) rfl rfl rfl (by decide) hX rfl (hop_bin rfl rfl (bin_eql (decide_eq_true h1))) fun a hX => ?_
    refine sx_true hX rfl (wp_seq (wp_region ?_))
    refine sx_q _ _ _ rfl rfl rfl (by decide) hX rfl rfl fun a hX => ?_
    refine sx_q _ _ _ rfl rfl rfl (by decide) hX rfl rfl fun a hX => ?_
    refine sx_q _ _ _ rfl rfl rfl (by decide) hX rfl rfl fun a hX => ?_
    refine sx_q _ _ _ rfl rfl rfl (by decide) hX rfl rfl fun a hX => ?_
    exact wp_ret (K2 (.inl (Int.ofNat.inj h1)) 3 (by decide) ρ H _ w (hX.keep0.slots _ ⟨rfl, rfl, rfl, trivial⟩))
  · have h1' : l.length < 262144 := by
      have : l.length ≠ 262144 := fun e => h1 (congrArg Int.ofNat e)
      omega
    refine sx_q _ _ (.bool false) rfl rfl rfl (by decide) hX rfl (hop_bin rfl rfl (bin_eql (decide_eq_false h1))) fun a hX => ?_
    refine sx_false hX rfl (wp_skip ?_)
    refine wp_seq (wp_region ?_)
    refine sx_q _ _ _ rfl rfl rfl (by decide) hX rfl rfl fun a hX => ?_
    refine sx_q _ _ _ rfl rfl rfl (by decide) hX rfl rfl fun a hX => ?_
    refine sx_q _ _ (.int .u8 (k : Int)) rfl rfl rfl (by decide) hX rfl (hop_index_str ix_9 rfl rfl hk) fun a hX => ?_
    refine sx_q _ _ (opAV ⟨k, 0, 0, 0, 0, 0⟩) rfl rfl rfl (by decide) hX rfl rfl fun a hX => ?_
    refine sx_new _ _ (fun b => .ptr b 0) _ rfl rfl rfl (by decide) hX (hop_alloc zc_98) fun b0 ρ H a w hX => ?_
    have hX := hX.front
    refine sx_st _ 0 b0 0 _ (cellsOp ⟨k, 0, 0, 0, 0, 0⟩) rfl rfl rfl hX rfl (by simp [cellsOp]) (hop_storeN sz_98 rfl rfl rfl rfl) fun ρ H w hX => ?_
    refine wp_seq (wp_region ?_)
    refine sx_q _ _ _ rfl rfl rfl (by decide) hX rfl (hop_field' fz_98_0 rfl) fun a hX => ?_
    refine sx_q _ _ (.int .u8 (k : Int)) rfl rfl rfl (by decide) hX rfl (hop_load ty_95 rfl (hX.ld 0 rfl rfl)) fun a hX => ?_
    refine sx_pure _ _ 33 [.int .u8 (k : Int)] (formAV k) rfl rfl rfl (by decide) hX (hop_callf en_33 rfl) (form_spec k hk256 _) fun ρ H a w hX => ?_
    rw [formAV_frm] at hX
    refine sx_q _ _ _ rfl rfl rfl (by decide) hX rfl rfl fun a hX => ?_
    refine sx_q _ _ _ rfl rfl rfl (by decide) hX rfl rfl fun a hX => ?_
    refine sx_q _ _ _ rfl rfl rfl (by decide) hX rfl rfl fun a hX => ?_
    refine sx_new _ _ (fun b => .ptr b 0) _ rfl rfl rfl (by decide) hX (hop_alloc zc_103) fun b1 ρ H a w hX => ?_
    have hX := hX.front
    refine sx_st _ 0 b1 0 _ (cellsFm (frm k)) rfl rfl rfl hX rfl (by simp [cellsFm]) (hop_storeN sz_103 rfl rfl rfl rfl) fun ρ H w hX => ?_
    refine sx_q _ _ _ rfl rfl rfl (by decide) hX rfl rfl fun a hX => ?_
    have hX := hX.perm (Φ' := (b0, cellsOp ⟨k, 0, 0, 0, 0, 0⟩) :: (b1, cellsFm (frm k)) :: Φr) (List.Perm.swap _ _ _)
    have e1 : IntKind.i64.wrap ((at_ : Int) + Int.ofNat 1) = Int.ofNat (at_ + 1) := by rw [wrap_i64]; unfold Img.wrapI; show ((at_ : Int) + 1 + _) % _ - _ = ((at_ + 1 : Nat) : Int); omega
    refine wp_seq (wp_region ?_)
    refine sx_q _ _ _ rfl rfl rfl (by decide) hX rfl rfl fun a hX => ?_
    refine sx_q _ _ _ rfl rfl rfl (by decide) hX rfl rfl fun a hX => ?_
    refine sx_q _ _ (.int .i64 (.ofNat (at_ + 1))) rfl rfl rfl (by decide) hX rfl (by rw [← e1]; exact hop_bin rfl rfl bin_add) fun a hX => ?_
    refine sx_q _ _ (.str (bs.drop (at_ + 1))) rfl rfl rfl (by decide) hX rfl (hop_slice_str Tryz.underlying9 rfl rfl (by omega)) fun a hX => ?_
    refine sx_q _ _ _ rfl rfl rfl (by decide) hX rfl rfl fun a hX => ?_
    refine wp_seq (wp_region ?_)
    refine sx_q _ _ _ rfl rfl rfl (by decide) hX rfl (hop_field' fz_103_1 rfl) fun a hX => ?_
    refine sx_q _ _ (.int .i64 ((frm k).regs : Int)) rfl rfl rfl (by decide) hX rfl (hop_load ty_3 rfl (hX.ld 1 rfl rfl)) fun a hX => ?_
    refine sx_q _ _ _ rfl rfl rfl (by decide) hX rfl rfl fun a hX => ?_
    refine dec_y5 (frm k) (frm_regs k) bs V (.bool (Img.formN k).isSome) at_ (bs.drop (at_ + 1)) (k1 := 1) rfl (hX.slots _ ⟨rfl, rfl, rfl, rfl, rfl, rfl, rfl, rfl, trivial⟩) fun ρ H a w hX => ?_
    refine dec_y7 (frm k) _ bs V at_ _ _ hX (fun hsome hneed a hX => ?_) (fun hbad ρ H a w hX => ?_)
    · obtain ⟨f, hf⟩ := Option.isSome_iff_exists.1 hsome
      have hfr : frm k = f := by unfold frm; rw [hf]; rfl
      rw [hfr] at hX hneed
      have hregs := Img.formN_regs hf
      have hn1 : Img.need f = f.regs + (if f.cal then 1 else 0) + (if f.n then 8 else 0) := rfl
      have hdl := List.length_drop (i := at_ + 1) (l := bs)
      refine dec_y8 f (⟨k, 0, 0, 0, 0, 0⟩, bs.drop (at_ + 1)) bs V at_ _ (fun h => by rw [h] at hn1; show 1 ≤ (bs.drop (at_ + 1)).length; simp at hn1; omega) Φr hX fun ρ H a w hX => ?_
      have hc := Img.cal0_len f (⟨k, 0, 0, 0, 0, 0⟩, bs.drop (at_ + 1))
      refine dec_y9 f _ bs V at_ _ (by rw [hc]; show _ ≤ (bs.drop (at_ + 1)).length - _; omega) Φr hX fun ρ H a w hX => ?_
      have hr := Img.regs3_len f hregs (Img.cal0 f (⟨k, 0, 0, 0, 0, 0⟩, bs.drop (at_ + 1)))
      refine dec_y10 _ f bs V at_ _ _ (fun c hc => hrb c (Img.cal0_mem _ _ c (Img.regs3_mem _ _ c hc))) (fun h => by rw [h] at hn1; rw [hr, hc]; show 8 ≤ (bs.drop (at_ + 1)).length - _ - _; simp at hn1; omega) Φr hX fun ρ H a w hX => ?_
      refine dec_y11 (Img.decO f k (bs.drop (at_ + 1))) (Img.decO_wb f k hk256 _ hrb) f bs V l hl at_ (Img.need f) (by omega) _ Φr hR hX (fun hok V' Φr' ρ H a w hR' hX => ?_) (fun hok ρ H a w hX => ?_)
      · exact K f hf h1' hneed hok V' Φr' ρ H a w hR' hX
      · exact K2 (.inr (.inr ⟨f, hf, .inr hok⟩)) 13 (by decide) ρ H a w hX
    · refine K2 (.inr ?_) 13 (by decide) ρ H a w hX
      cases hf : Img.formN k with
      | none => exact .inl rfl
      | some f =>
        have hfr : frm k = f := by unfold frm; rw [hf]; rfl
        rw [hf, hfr] at hbad
        rcases hbad with h | h
        · cases h
        · exact .inr ⟨f, rfl, .inl h⟩
end Go.Vex
namespace Go.Img
/-! ### Numbers there and back -/
theorem wrapI_mul (x t : Int) : wrapI (x + 18446744073709551616 * t) = wrapI x := by unfold wrapI; omega
theorem wrapI_in {n : Int} (h1 : lo ≤ n) (h2 : n ≤ hi) : wrapI n = n := by unfold lo at h1; unfold hi at h2; unfold wrapI; omega
theorem wrapI_ex (x : Int) : ∃ t, wrapI x = x + 18446744073709551616 * t := ⟨-((x + 9223372036854775808) / 18446744073709551616), by unfold wrapI; omega⟩
theorem byteAt_cast (s : Nat) (n : Int) : ((byteAt s n : Nat) : Int) = n / 2 ^ s % 256 := by
  unfold byteAt
  have := Int.emod_nonneg (n / 2 ^ s) (show (256 : Int) ≠ 0 by decide)
  omega
theorem pow8 (j : Nat) : (2 : Int) ^ (8 * (j + 1)) = 2 ^ (8 * j) * 256 := by
  rw [Nat.mul_add, Int.pow_add]; rfl
theorem div8 (n : Int) (j : Nat) : n / 2 ^ (8 * (j + 1)) = n / 2 ^ (8 * j) / 256 := by
  rw [pow8, Int.ediv_ediv_of_nonneg (Int.pow_nonneg (by decide))]
theorem fold_be (n : Int) : ∀ (j : Nat) (m : Int), wrapI ((beN j n).foldl stepN m) = wrapI ((m - n / 2 ^ (8 * j)) * 2 ^ (8 * j) + n) := by
  intro j
  induction j with
  | zero =>
    intro m
    show wrapI m = wrapI ((m - n / 1) * 1 + n)
    rw [Int.ediv_one]; congr 1; omega
  | succ j ih =>
    intro m
    show wrapI ((beN j n).foldl stepN (stepN m (byteAt (8 * j) n))) = _
    rw [ih]
    obtain ⟨t, ht⟩ := wrapI_ex (m * 256 + (byteAt (8 * j) n : Int))
    have hs : stepN m (byteAt (8 * j) n) = m * 256 + n / 2 ^ (8 * j) % 256 + 18446744073709551616 * t := by unfold stepN; rw [ht, byteAt_cast]
    rw [hs, div8, pow8]
    have hq : n / 2 ^ (8 * j) = n / 2 ^ (8 * j) / 256 * 256 + n / 2 ^ (8 * j) % 256 := by omega
    generalize n / 2 ^ (8 * j) / 256 = q at hq
    generalize hr : n / 2 ^ (8 * j) % 256 = r at hq
    rw [hq]
    generalize (2 : Int) ^ (8 * j) = P
    have e : (m * 256 + r + 18446744073709551616 * t - (q * 256 + r)) * P + n = ((m - q) * (P * 256) + n) + 18446744073709551616 * (t * P) := by grind
    rw [e, wrapI_mul]
theorem wrapI_wrapI (x : Int) : wrapI (wrapI x) = wrapI x := by unfold wrapI; omega
theorem fold_wrap : ∀ (bs : List Nat) (m : Int), wrapI m = m → wrapI (bs.foldl stepN m) = bs.foldl stepN m := by
  intro bs
  induction bs with
  | nil => intro m h; rw [List.foldl_nil]; exact h
  | cons b bs ih => intro m h; rw [List.foldl_cons]; exact ih _ (wrapI_wrapI _)
theorem wrapI_0 : wrapI 0 = 0 := by unfold wrapI; omega
theorem fold_be8 {n : Int} (h1 : lo ≤ n) (h2 : n ≤ hi) : (beN 8 n).foldl stepN 0 = n := by
  have h := fold_be n 8 0
  rw [fold_wrap _ 0 wrapI_0] at h
  rw [h]
  have e2 : (0 - n / 2 ^ (8 * 8)) * 2 ^ (8 * 8) + n = n + 18446744073709551616 * (0 - n / 2 ^ (8 * 8)) := by
    have hp : (2 : Int) ^ (8 * 8) = 18446744073709551616 := by simp only [Nat.reduceMul, Int.reducePow]
    generalize n / 2 ^ (8 * 8) = q
    rw [hp, Int.mul_comm, Int.add_comm]
  rw [e2, wrapI_mul, wrapI_in h1 h2]
def val (m : Int) (bs : List Nat) : Int := List.foldl (fun (m : Int) (b : Nat) => m * 256 + (b : Int)) m bs
theorem val_be : ∀ (bs : List Nat) (m : Int), (∀ c ∈ bs, c < 256) → beN bs.length (val m bs) = bs ∧ val m bs / 2 ^ (8 * bs.length) = m := by
  intro bs
  induction bs with
  | nil => intro m _; exact ⟨rfl, by show m / 2 ^ 0 = m; rw [Int.pow_zero]; exact Int.ediv_one m⟩
  | cons b bs ih =>
    intro m h
    have hb := h b (by simp)
    obtain ⟨h1, h2⟩ := ih (m * 256 + (b : Int)) fun c hc => h c (by simp [hc])
    have hv : val m (b :: bs) = val (m * 256 + (b : Int)) bs := rfl
    rw [hv]
    refine ⟨?_, ?_⟩
    · show byteAt (8 * bs.length) _ :: beN bs.length _ = _
      rw [h1]
      have : byteAt (8 * bs.length) (val (m * 256 + (b : Int)) bs) = b := by
        have := byteAt_cast (8 * bs.length) (val (m * 256 + (b : Int)) bs)
        rw [h2] at this
        omega
      rw [this]
    · show val (m * 256 + (b : Int)) bs / 2 ^ (8 * (bs.length + 1)) = m
      rw [div8, h2]; omega
theorem fold_val : ∀ (bs : List Nat) (m x : Int), wrapI m = wrapI x → wrapI (bs.foldl stepN m) = wrapI (val x bs) := by
  intro bs
  induction bs with
  | nil => intro m x h; exact h
  | cons b bs ih =>
    intro m x h
    refine ih (stepN m b) (x * 256 + (b : Int)) ?_
    unfold stepN
    unfold wrapI at h ⊢
    omega
theorem byteAt_wrapI {s : Nat} (j : Nat) (hj : j < 8) (hs : s = 8 * j) (x t : Int) : byteAt s (x + 18446744073709551616 * t) = byteAt s x := by
  subst hs
  have : j = 0 ∨ j = 1 ∨ j = 2 ∨ j = 3 ∨ j = 4 ∨ j = 5 ∨ j = 6 ∨ j = 7 := by omega
  unfold byteAt
  rcases this with rfl | rfl | rfl | rfl | rfl | rfl | rfl | rfl <;> congr 1 <;> simp only [Nat.reduceMul, Int.reducePow] <;> omega
theorem beN_wrap (x t : Int) : ∀ j, j ≤ 8 → beN j (x + 18446744073709551616 * t) = beN j x := by
  intro j
  induction j with
  | zero => intro _; rfl
  | succ j ih =>
    intro h
    show byteAt (8 * j) _ :: beN j _ = byteAt (8 * j) x :: beN j x
    rw [ih (by omega), byteAt_wrapI j (by omega) rfl]
theorem be_fold8 (bs : List Nat) (hl : bs.length = 8) (h : ∀ c ∈ bs, c < 256) : beN 8 (bs.foldl stepN 0) = bs := by
  have h1 := fold_val bs 0 0 rfl
  have h2 := (val_be bs 0 h).1
  rw [hl] at h2
  obtain ⟨s, hs⟩ := wrapI_ex (bs.foldl stepN 0)
  obtain ⟨t, ht⟩ := wrapI_ex (val 0 bs)
  have e : bs.foldl stepN 0 = val 0 bs + 18446744073709551616 * (t - s) := by omega
  rw [e, beN_wrap _ _ 8 (Nat.le_refl 8)]; exact h2
end Go.Img
namespace Go.Img
/-! ### Operations there and back -/
theorem regs3_ok (f : Fm) (hf : f.regs ≤ 3) (o : Op) (xs : List Nat) (hl : f.regs ≤ xs.length) : ∃ a b r, regs3 f (o, xs) = ({ o with a := a, b := b, r := r }, xs.drop f.regs) ∧ [a, b, r].take f.regs = xs.take f.regs ∧ (f.regs ≤ 0 → a = o.a) ∧ (f.regs ≤ 1 → b = o.b) ∧ (f.regs ≤ 2 → r = o.r) := by
  obtain ⟨cal, regs, n, least, most⟩ := f
  have : regs = 0 ∨ regs = 1 ∨ regs = 2 ∨ regs = 3 := by have : regs ≤ 3 := hf; omega
  have hl : regs ≤ xs.length := hl
  rcases this with rfl | rfl | rfl | rfl
  · exact ⟨o.a, o.b, o.r, by simp [regs3, stepR], by simp, by simp, by simp, by simp⟩
  · match xs, hl with
    | x :: xs, _ => exact ⟨x, o.b, o.r, by simp [regs3, stepR, setR], by simp, by simp, by simp, by simp⟩
  · match xs, hl with
    | x :: y :: xs, _ => exact ⟨x, y, o.r, by simp [regs3, stepR, setR], by simp, by simp, by simp, by simp⟩
  · match xs, hl with
    | x :: y :: z :: xs, _ => exact ⟨x, y, z, by simp [regs3, stepR, setR], by simp, by simp, by simp, by simp⟩
theorem cal0_ok (f : Fm) (o : Op) (xs : List Nat) (hl : (if f.cal then 1 else 0) ≤ xs.length) : ∃ c, cal0 f (o, xs) = ({ o with c := c }, xs.drop (if f.cal then 1 else 0)) ∧ (if f.cal then [c] else []) = xs.take (if f.cal then 1 else 0) ∧ (f.cal = false → c = o.c) := by
  unfold cal0
  cases hc : f.cal with
  | false => exact ⟨o.c, by simp, by simp, by simp⟩
  | true =>
    rw [hc] at hl
    match xs, hl with
    | x :: xs, _ => exact ⟨x, by simp, by simp, by simp⟩
theorem num8_ok (f : Fm) (o : Op) (xs : List Nat) (hx : ∀ c ∈ xs, c < 256) (hl : (if f.n then 8 else 0) ≤ xs.length) (h0 : o.n = 0) : ∃ n, num8 f (o, xs) = { o with n := n } ∧ (if f.n then beN 8 n else []) = xs.take (if f.n then 8 else 0) ∧ (f.n = false → n = 0) := by
  unfold num8
  cases hc : f.n with
  | false => exact ⟨o.n, by simp, by simp, by simp [h0]⟩
  | true =>
    rw [hc] at hl
    have hl : 8 ≤ xs.length := by simpa using hl
    refine ⟨(xs.take 8).foldl stepN o.n, by simp, ?_, by simp⟩
    rw [h0]
    simp only [if_true]
    exact be_fold8 _ (by simp; omega) fun c hc => hx c (List.mem_of_mem_take hc)
/-- What is read stands for the bytes. -/
theorem enc_dec (f : Fm) (hf : f.regs ≤ 3) (k : Nat) (rest : List Nat) (hx : ∀ c ∈ rest, c < 256) (hl : need f ≤ rest.length) : (decO f k rest).k = k ∧ encF f (decO f k rest) = k :: rest.take (need f) := by
  have hn : need f = f.regs + (if f.cal then 1 else 0) + (if f.n then 8 else 0) := rfl
  generalize hC : (if f.cal then 1 else 0) = C at hn
  generalize hN : (if f.n then 8 else 0) = N at hn
  obtain ⟨c, e1, c1, _⟩ := cal0_ok f ⟨k, 0, 0, 0, 0, 0⟩ rest (by rw [hC]; omega)
  rw [hC] at e1 c1
  obtain ⟨a, b, r, e2, c2, _⟩ := regs3_ok f hf ⟨k, c, 0, 0, 0, 0⟩ (rest.drop C) (by rw [List.length_drop]; omega)
  obtain ⟨n, e3, c3, _⟩ := num8_ok f ⟨k, c, a, b, r, 0⟩ ((rest.drop C).drop f.regs) (fun c hc => hx c (List.mem_of_mem_drop (List.mem_of_mem_drop hc))) (by rw [hN, List.length_drop, List.length_drop]; omega) rfl
  rw [hN] at c3
  have e : decO f k rest = ⟨k, c, a, b, r, n⟩ := by
    unfold decO; rw [e1]; show num8 f (regs3 f (⟨k, c, 0, 0, 0, 0⟩, rest.drop C)) = _; rw [e2]; exact e3
  rw [e]
  refine ⟨rfl, ?_⟩
  show [k] ++ (if f.cal then [c] else []) ++ [a, b, r].take f.regs ++ (if f.n then beN 8 n else []) = _
  rw [c1, c2, c3, hn]
  simp only [List.cons_append, List.nil_append, List.append_assoc]
  congr 1
  rw [show f.regs + C + N = C + (f.regs + N) by omega, List.take_add, List.take_add]
/-- What is written is read. -/
theorem dec_enc (f : Fm) (hf : f.regs ≤ 3) (o : Op) (hb : Wb o) (hc : f.cal = false → o.c = 0) (ha : f.regs ≤ 0 → o.a = 0) (hb2 : f.regs ≤ 1 → o.b = 0) (hr : f.regs ≤ 2 → o.r = 0) (hn : f.n = false → o.n = 0) (hn2 : f.n = true → lo ≤ o.n ∧ o.n ≤ hi) (t : List Nat) (ht : ∀ c ∈ t, c < 256) :
    ∃ tl, encF f o = o.k :: tl ∧ tl.length = need f ∧ decO f o.k (tl ++ t) = o := by
  have hlen : (calL f o ++ regL f o ++ numL f o).length = need f := by
    unfold calL regL numL need
    rw [List.length_append, List.length_append, List.length_take]
    have h1 : (if f.cal = true then [o.c] else []).length = if f.cal = true then 1 else 0 := by split <;> rfl
    have h2 : (if f.n = true then beN 8 o.n else []).length = if f.n = true then 8 else 0 := by split; exact beN_len _ _; rfl
    have h3 : min f.regs [o.a, o.b, o.r].length = f.regs := Nat.min_eq_left hf
    rw [h1, h2, h3]; omega
  refine ⟨calL f o ++ regL f o ++ numL f o, by unfold encF; simp, hlen, ?_⟩
  have e1 : cal0 f (⟨o.k, 0, 0, 0, 0, 0⟩, calL f o ++ regL f o ++ numL f o ++ t) = (⟨o.k, o.c, 0, 0, 0, 0⟩, regL f o ++ numL f o ++ t) := by
    unfold cal0 calL
    cases h : f.cal with
    | false => simp [hc h]
    | true => simp
  have e2 : regs3 f (⟨o.k, o.c, 0, 0, 0, 0⟩, regL f o ++ numL f o ++ t) = (⟨o.k, o.c, o.a, o.b, o.r, 0⟩, numL f o ++ t) := by
    have hl : (regL f o).length = f.regs := by unfold regL; rw [List.length_take]; exact Nat.min_eq_left hf
    obtain ⟨a, b, r, e, c, c1, c2, c3⟩ := regs3_ok f hf ⟨o.k, o.c, 0, 0, 0, 0⟩ (regL f o ++ numL f o ++ t) (by rw [List.length_append, List.length_append]; omega)
    rw [e]
    have hd : (regL f o ++ numL f o ++ t).drop f.regs = numL f o ++ t := by rw [List.append_assoc, ← hl, List.drop_left]
    have hk : (regL f o ++ numL f o ++ t).take f.regs = [o.a, o.b, o.r].take f.regs := by rw [List.append_assoc, ← hl, List.take_left]; unfold regL; rw [List.length_take, show min f.regs [o.a, o.b, o.r].length = f.regs from Nat.min_eq_left hf]
    rw [hd]
    rw [hk] at c
    have : a = o.a ∧ b = o.b ∧ r = o.r := by
      have : f.regs = 0 ∨ f.regs = 1 ∨ f.regs = 2 ∨ f.regs = 3 := by omega
      rcases this with h | h | h | h <;> rw [h] at c c1 c2 c3 ha hb2 hr <;> simp at c c1 c2 c3 ha hb2 hr <;> simp_all
    obtain ⟨rfl, rfl, rfl⟩ := this
    rfl
  unfold decO
  rw [e1, e2]
  unfold num8 numL
  cases h : f.n with
  | false =>
    obtain ⟨k, c, a, b, r, n⟩ := o
    have : n = 0 := hn h
    subst this; rfl
  | true =>
    obtain ⟨h1, h2⟩ := hn2 h
    have : ((beN 8 o.n ++ t).take 8).foldl stepN 0 = o.n := by
      have e : (beN 8 o.n ++ t).take 8 = beN 8 o.n := List.take_left' (beN_len 8 o.n)
      rw [e, fold_be8 h1 h2]
    simp only [if_true, this]
theorem formN_n {k : Nat} {f : Fm} (h : formN k = some f) : lo ≤ f.least ∧ f.most ≤ hi := by
  unfold formN at h
  split at h <;> first | (injection h with h; subst h; decide) | cases h
theorem dec_enc' {o : Op} {f : Fm} (h : formN o.k = some f) (hok : okB o = true) (hb : Wb o) (t : List Nat) (ht : ∀ c ∈ t, c < 256) : ∃ tl, encO o = o.k :: tl ∧ tl.length = need f ∧ decO f o.k (tl ++ t) = o := by
  unfold okB at hok
  rw [h] at hok
  simp only [Bool.and_eq_true] at hok
  obtain ⟨hc, ⟨ha, hb2, hr⟩, hn⟩ := hok
  unfold calcB at hc
  unfold regB at ha hb2 hr
  unfold numB at hn
  obtain ⟨n1, n2⟩ := formN_n h
  rw [encO_of h]
  refine dec_enc f (formN_regs h) o hb (fun e => ?_) (fun e => ?_) (fun e => ?_) (fun e => ?_) (fun e => ?_) (fun e => ?_) t ht
  · rw [e] at hc; simp at hc; exact hc.1
  · rw [if_neg (by omega)] at ha; simpa using ha
  · rw [if_neg (by omega)] at hb2; simpa using hb2
  · rw [if_neg (by omega)] at hr; simpa using hr
  · rw [e] at hn; simpa using hn
  · rw [e] at hn; simp at hn; omega
end Go.Img
namespace Go.Img
/-! ### Rows of operations -/
def Good (l : List Op) : Prop := l.length ≤ 262144 ∧ ∀ o ∈ l, okB o = true ∧ Wb o
theorem okB_form {o : Op} (h : okB o = true) : ∃ f, formN o.k = some f := by
  unfold okB at h
  cases hf : formN o.k with
  | none => rw [hf] at h; cases h
  | some f => exact ⟨f, rfl⟩
theorem encO_inj {o o' : Op} (h : okB o = true) (hb : Wb o) (h' : okB o' = true) (hb' : Wb o') {X X' : List Nat} (hX : ∀ c ∈ X, c < 256) (hX' : ∀ c ∈ X', c < 256) (e : encO o ++ X = encO o' ++ X') : o = o' ∧ X = X' := by
  obtain ⟨f, hf⟩ := okB_form h
  obtain ⟨f', hf'⟩ := okB_form h'
  obtain ⟨tl, e1, l1, d1⟩ := dec_enc' hf h hb X hX
  obtain ⟨tl', e2, l2, d2⟩ := dec_enc' hf' h' hb' X' hX'
  rw [e1, e2, List.cons_append, List.cons_append] at e
  injection e with ek et
  rw [ek, hf'] at hf
  injection hf with hf
  subst hf
  have : o = o' := by rw [← d1, ← d2, ek, et]
  subst this
  exact ⟨rfl, @List.append_cancel_left _ tl _ _ (by
    have : tl = tl' := by rw [e1] at e2; injection e2
    rw [this] at et ⊢; exact et)⟩
theorem encL_cons (o : Op) (l : List Op) : encL (o :: l) = encO o ++ encL l := rfl
theorem encO_ne {o : Op} (h : okB o = true) : encO o ≠ [] := by
  obtain ⟨f, hf⟩ := okB_form h
  rw [encO_of hf]; unfold encF; simp
theorem encL_pre : ∀ (l l' : List Op) (t : List Nat), (∀ o ∈ l, okB o = true ∧ Wb o) → (∀ o ∈ l', okB o = true ∧ Wb o) → (∀ c ∈ t, c < 256) → encL l' = encL l ++ t → ∃ l2, l' = l ++ l2 ∧ encL l2 = t := by
  intro l
  induction l with
  | nil => intro l' t _ _ _ e; exact ⟨l', rfl, e⟩
  | cons o l ih =>
    intro l' t h h' ht e
    cases l' with
    | nil =>
      rw [encL_cons] at e
      have : encO o = [] := by
        have e : [] = encO o ++ encL l ++ t := e
        simp at e; exact e.1
      exact absurd this (encO_ne (h o (by simp)).1)
    | cons o' l' =>
      rw [encL_cons, encL_cons, List.append_assoc] at e
      have hX : ∀ c ∈ encL l', c < 256 := encL_lt fun o ho => (h' o (by simp [ho])).2
      have hX' : ∀ c ∈ encL l ++ t, c < 256 := fun c hc => (List.mem_append.1 hc).elim (encL_lt (fun o ho => (h o (by simp [ho])).2) c) (ht c)
      obtain ⟨rfl, e'⟩ := encO_inj (h' o' (by simp)).1 (h' o' (by simp)).2 (h o (by simp)).1 (h o (by simp)).2 hX hX' e
      obtain ⟨l2, rfl, e2⟩ := ih l' t (fun o ho => h o (by simp [ho])) (fun o ho => h' o (by simp [ho])) ht e'
      exact ⟨l2, rfl, e2⟩
/-- Where a round stops, no row fits. -/
theorem stop_law {bs : List Nat} (hbs : ∀ c ∈ bs, c < 256) {l : List Op} (hl : Good l) {k : Nat} {rest : List Nat} (e : encL l ++ k :: rest = bs) (hst : l.length = 262144 ∨ formN k = none ∨ ∃ f, formN k = some f ∧ (rest.length < need f ∨ okB (decO f k rest) = false)) (l' : List Op) (hl' : Good l') : encL l' ≠ bs := by
  intro e'
  obtain ⟨l2, rfl, e2⟩ := encL_pre l l' (k :: rest) hl.2 hl'.2 (fun c hc => hbs c (by rw [← e]; exact List.mem_append_right _ hc)) (by rw [e', e])
  cases l2 with
  | nil => cases e2
  | cons o l2 =>
    have ho := hl'.2 o (by simp)
    obtain ⟨f, hf⟩ := okB_form ho.1
    have hX : ∀ c ∈ encL l2, c < 256 := encL_lt fun o ho => (hl'.2 o (by simp [ho])).2
    obtain ⟨tl, e1, l1, d1⟩ := dec_enc' hf ho.1 ho.2 (encL l2) hX
    rw [encL_cons, e1, List.cons_append] at e2
    injection e2 with ek et
    have hlen := hl'.1
    simp only [List.length_append, List.length_cons] at hlen
    rcases hst with h | h | ⟨f', hf', h⟩
    · omega
    · rw [← ek, hf] at h; cases h
    · rw [← ek, hf] at hf'
      injection hf' with hf'
      subst hf'
      rcases h with h | h
      · rw [← et, List.length_append] at h; omega
      · rw [← et, ← ek, d1, ho.1] at h; cases h
/-- A round that goes on. -/
theorem go_law {bs : List Nat} (hbs : ∀ c ∈ bs, c < 256) {l : List Op} (hl : Good l) {k : Nat} {rest : List Nat} (e : encL l ++ k :: rest = bs) {f : Fm} (hf : formN k = some f) (hlt : l.length < 262144) (hn : need f ≤ rest.length) (hok : okB (decO f k rest) = true) :
    Good (l ++ [decO f k rest]) ∧ encL (l ++ [decO f k rest]) ++ rest.drop (need f) = bs ∧ (encL (l ++ [decO f k rest])).length = (encL l).length + 1 + need f := by
  have hr : ∀ c ∈ rest, c < 256 := fun c hc => hbs c (by rw [← e]; simp [hc])
  have hk : k < 256 := hbs k (by rw [← e]; simp)
  obtain ⟨e1, e2⟩ := enc_dec f (formN_regs hf) k rest hr hn
  have e3 : encO (decO f k rest) = k :: rest.take (need f) := by rw [encO_of (f := f) (by rw [e1]; exact hf)]; exact e2
  have e4 : encL (l ++ [decO f k rest]) = encL l ++ k :: rest.take (need f) := by
    rw [encL_app, encL_cons, e3]; simp [encL]
  refine ⟨⟨by simp; omega, fun o ho => ?_⟩, ?_, ?_⟩
  · rcases List.mem_append.1 ho with ho | ho
    · exact hl.2 o ho
    · rw [List.mem_singleton.1 ho]; exact ⟨hok, decO_wb f k hk rest hr⟩
  · rw [e4, ← e, List.append_assoc, List.cons_append, List.take_append_drop]
  · rw [e4, List.length_append, List.length_cons, List.length_take, Nat.min_eq_left hn]; omega
end Go.Img
namespace Go.Vex
open Go.Proofs
set_option maxRecDepth 100000
variable {ρ ρ0 : Rho} {H H0 : Hp} {w w0 : World} {a : Act} {Q : Exit → Act → World → Prop}
/-- What isa.Decode answers. -/
def DecR (bs : List Nat) (H : Hp) (v : AV) (H' : Hp) : Prop := Stays H H' ∧
  ((∃ l, Img.Good l ∧ Img.encL l = bs ∧ ∃ V Φ, Row 6 V Φ l.length (opsCells l) ∧ v = .tup [V, .int .i64 0, .int .i64 0] ∧ ∀ x ∈ Φ, H.next ≤ x.1 ∧ x.1 < H'.next ∧ Content (H'.fn x.1) x.2) ∨
    ∃ at_ e : Int, e ≠ 0 ∧ v = .tup [.nils, .int .i64 at_, .int .i64 e] ∧ ∀ l, Img.Good l → Img.encL l ≠ bs)
noncomputable abbrev P20' (bs : List Nat) (ρ0 : Rho) (H0 : Hp) (w0 : World) := bodyPostD Tryz.prog Tryz.f20 (Post ρ0 H0 w0 (DecR bs H0))
noncomputable abbrev Q20 (bs : List Nat) (ρ0 : Rho) (H0 : Hp) (w0 : World) : Exit → Act → World → Prop := Exit.inBlock 0 (Exit.then ((seqR (seqR c20)).wp Tryz.prog (P20' bs ρ0 H0 w0)) (P20' bs ρ0 H0 w0))
theorem dec_fin (bs : List Nat) (l : List Img.Op) (at_ : Nat) (V : AV) (Φr : List (Nat × List AV)) (hge : bs.length ≤ at_) (hg : Img.Good l) (he : Img.encL l ++ bs.drop at_ = bs) (hR : Row 6 V Φr l.length (opsCells l))
    (hX : Sx Tryz.prog ρ0 H0 w0 108 No Φr (listF (M20 bs V at_)) ρ H a w) : LoopWp Tryz.prog ld20 (Q20 bs ρ0 H0 w0) a w := by
  have hlt : ¬ ((at_ : Int) < (bs.length : Int)) := by omega
  refine LoopWp.unroll (wp_seq (wp_seq (wp_region ?_)))
  refine sx_q _ _ _ rfl rfl rfl (by decide) hX rfl rfl fun a hX => ?_
  refine sx_q _ _ _ rfl rfl rfl (by decide) hX rfl rfl fun a hX => ?_
  refine sx_q _ _ (.int .i64 (.ofNat bs.length)) rfl rfl rfl (by decide) hX rfl (hop_len_str Tryz.underlying9 rfl) fun a hX => ?_
  refine sx_q _ _ (.bool false) rfl rfl rfl (by decide) hX rfl (hop_bin rfl rfl (bin_lss (decide_eq_false hlt))) fun a hX => ?_
  refine sx_false hX rfl (wp_exit ?_)
  refine then_exit (then_exit (inBlock_hit ?_))
  show ((seqR (seqR c20)).wp _ _ _ _)
  refine wp_seq (wp_region ?_)
  refine sx_q _ _ _ rfl rfl rfl (by decide) hX rfl rfl fun a hX => ?_
  refine sx_q _ _ _ rfl rfl rfl (by decide) hX rfl rfl fun a hX => ?_
  refine sx_q _ _ _ rfl rfl rfl (by decide) hX rfl rfl fun a hX => ?_
  refine sx_q _ _ _ rfl rfl rfl (by decide) hX rfl rfl fun a hX => ?_
  refine sx_ret3 2 3 4 _ _ _ hX rfl rfl rfl rfl ⟨hX.stays, .inl ⟨l, hg, ?_, V, Φr, hR, rfl, fun x hx => ?_⟩⟩ id
  · have : bs.drop at_ = [] := List.drop_eq_nil_iff.2 (by omega)
    rw [this, List.append_nil] at he; exact he
  · obtain ⟨k, hk⟩ := List.mem_iff_getElem?.1 hx
    obtain ⟨h1, h2, h3⟩ := hX.hp k x.1 x.2 hk
    exact ⟨Nat.le_of_not_lt fun h => h3 h, h1, h2⟩
theorem dec_lp (bs : List Nat) (hb : ∀ c ∈ bs, c < 256) (hbs : bs.length ≤ 2305843009213693952) : ∀ (n : Nat) (l : List Img.Op) (at_ : Nat) (V : AV) (Φr : List (Nat × List AV)) (ρ : Rho) (H : Hp) (a : Act) (w : World), bs.length - at_ ≤ n → Img.Good l → at_ = (Img.encL l).length → Img.encL l ++ bs.drop at_ = bs → Row 6 V Φr l.length (opsCells l) →
    Sx Tryz.prog ρ0 H0 w0 108 No Φr (listF (M20 bs V at_)) ρ H a w → LoopWp Tryz.prog ld20 (Q20 bs ρ0 H0 w0) a w := by
  intro n
  induction n with
  | zero =>
    intro l at_ V Φr ρ H a w hn hg hat he hR hX
    exact dec_fin bs l at_ V Φr (by omega) hg he hR hX
  | succ n ih =>
    intro l at_ V Φr ρ H a w hn hg hat he hR hX
    by_cases hlt0 : at_ < bs.length
    · have hlt : ((at_ : Int) < (bs.length : Int)) := by omega
      obtain ⟨k, hk⟩ : ∃ k, bs[at_]? = some k := ⟨_, List.getElem?_eq_getElem hlt0⟩
      have hd : bs.drop at_ = k :: bs.drop (at_ + 1) := by rw [List.drop_eq_getElem?_toList_append, hk]; rfl
      rw [hd] at he
      refine LoopWp.unroll (wp_seq (wp_seq (wp_region ?_)))
      refine sx_q _ _ _ rfl rfl rfl (by decide) hX rfl rfl fun a hX => ?_
      refine sx_q _ _ _ rfl rfl rfl (by decide) hX rfl rfl fun a hX => ?_
      refine sx_q _ _ (.int .i64 (.ofNat bs.length)) rfl rfl rfl (by decide) hX rfl (hop_len_str Tryz.underlying9 rfl) fun a hX => ?_
      refine sx_q _ _ (.bool true) rfl rfl rfl (by decide) hX rfl (hop_bin rfl rfl (bin_lss (decide_eq_true hlt))) fun a hX => ?_
      refine sx_true hX rfl (wp_skip ?_)
      refine wp_block ?_
      refine dec_bd bs hb hbs V l hg.1 at_ k hk Φr hR (hX.slots _ ⟨rfl, rfl, rfl, trivial⟩) (fun f hf hl262 hneed hok V' Φr' ρ H a w hR' hX => ?_) (fun hst e he0 ρ H a w hX => ?_)
      · obtain ⟨g1, g2, g3⟩ := Img.go_law hb hg he hf hl262 hneed hok
        refine ih _ _ V' Φr' ρ H a w (by omega) g1 (by rw [g3, hat]) ?_ hR' hX
        rw [List.drop_drop] at g2; exact g2
      · show Leaves _ _ _ _ a.defers _ _
        rw [hX.df]
        exact ⟨_, results_three rfl _ _, ρ, H, _, _, rfl, .tup (vs := [_, _, _]) (.cons (hX.sl.rel 2 _ rfl) (.cons (hX.sl.rel 3 _ rfl) (.cons (hX.sl.rel 4 _ rfl) .nil))), hX.rep, hX.ext, hX.stays, .inr ⟨at_, e, he0, rfl, fun l' hl' => Img.stop_law hb hg he hst l' hl'⟩⟩
    · exact dec_fin bs l at_ V Φr (by omega) hg he hR hX
/-- isa.Decode. -/
theorem dec_spec (bs : List Nat) (hb : ∀ c ∈ bs, c < 256) (hbs : bs.length ≤ 2305843009213693952) (H : Hp) : Spec Tryz.prog 20 [.str bs] H (DecR bs H) := by
  refine spec_body0 108 Tryz.func20 rfl Tryz.ntmps20 (by simp) fun ρ w a hX => ?_
  refine wp_seq (wp_region ?_)
  refine sx_q _ _ _ rfl rfl rfl (by decide) hX rfl rfl fun a hX => ?_
  refine sx_q _ _ _ rfl rfl rfl (by decide) hX rfl rfl fun a hX => ?_
  refine sx_q _ _ _ rfl rfl rfl (by decide) hX rfl rfl fun a hX => ?_
  refine wp_seq (wp_block (LoopWp.wp ?_))
  exact dec_lp bs hb hbs bs.length [] 0 .nils [] ρ H _ w (by omega) ⟨by simp, by simp⟩ rfl rfl (.inl ⟨rfl, rfl, rfl, rfl⟩) (hX.slots (M20 bs .nils ((0 : Nat) : Int)) ⟨rfl, rfl, rfl, trivial⟩)
end Go.Vex
