/-
  Images that stand for the same are the same; how much an image has in it.
  No condition.
-/
import Derived.Test.YtmpabjogookkpaaGreatBkG
set_option linter.unusedVariables false
namespace Go.Vex
open Go.Proofs
set_option maxRecDepth 100000
theorem eqFs_refl {P : Program} : ∀ (fs : List Field) (cs : List AV), cs.length = fs.length → (∀ (i : Nat) (f : Field), fs[i]? = some f → ∃ k k' z, P.underlying f.type = some (.int k) ∧ cs[i]? = some (.int k' z)) → eqFs P fs cs cs = some true := by
  intro fs
  induction fs with
  | nil => intro cs _ _; rfl
  | cons f fs ih =>
    intro cs hl h
    cases cs with
    | nil => simp at hl
    | cons c cs =>
      obtain ⟨k, k', z, h1, h2⟩ := h 0 f rfl
      simp at h2
      subst h2
      show ob (eqCellT P f.type (.int k' z) (.int k' z)) (fun r => iteB r (eqFs P fs (dropL 1 (.int k' z :: cs)) (dropL 1 (.int k' z :: cs))) (some false)) = _
      have e1 : eqCellT P f.type (.int k' z) (.int k' z) = some true := by
        show ob (P.underlying f.type) _ = _
        rw [h1]
        show iteB (kEq k' k') (some (intEq z z)) none = _
        rw [kEq_self, iteB_true, intEq_iff]; simp
      rw [e1, ob_mk, iteB_true, dropL_eq]
      exact ih cs (by simpa using hl) fun i f hf => h (i + 1) f hf
theorem fl_98 : (flatN Tryz.prog 98).map (fun fs => fs.map fun f => Tryz.prog.underlying f.type) = some [some (.int .u8), some (.int .u8), some (.int .u8), some (.int .u8), some (.int .u8), some (.int .i64)] := by kernel_rfl
theorem fl_52 : (flatN Tryz.prog 52).map (fun fs => fs.map fun f => Tryz.prog.underlying f.type) = some [some (.int .i64), some (.int .i64)] := by kernel_rfl
theorem st_98 : (match Tryz.prog.underlying 98 with | some (.struct _) => true | _ => false) = true := by kernel_rfl
theorem st_52 : (match Tryz.prog.underlying 52 with | some (.struct _) => true | _ => false) = true := by kernel_rfl
theorem neq_agg {P : Program} {t : TypeId} {cs : List AV} {us : List (Option TypeDesc)} (hst : (match P.underlying t with | some (.struct _) => true | _ => false) = true) (hfl : (flatN P t).map (fun fs => fs.map fun f => P.underlying f.type) = some us) (hl : cs.length = us.length)
    (hi : ∀ (i : Nat) u, us[i]? = some u → ∃ k k' z, u = some (.int k) ∧ cs[i]? = some (.int k' z)) : binA P .neq t (.agg cs) (.agg cs) = some (.bool false) := by
  show eqBin .neq (eqOther P t (.agg cs) (.agg cs)) = _
  have e : eqOther P t (.agg cs) (.agg cs) = some true := by
    unfold eqOther
    cases hu : P.underlying t with
    | none => rw [hu] at hst; cases hst
    | some d =>
      rw [hu] at hst
      cases d <;> first | cases hst | skip
      show ob (flatN P t) (fun fs => eqFs P fs cs cs) = _
      cases hf : flatN P t with
      | none => rw [hf] at hfl; cases hfl
      | some fs =>
        rw [hf] at hfl
        have hfl : some (fs.map fun f => P.underlying f.type) = some us := hfl
        injection hfl with hfl
        subst hfl
        refine eqFs_refl fs cs (by simpa using hl) fun i f hf => ?_
        obtain ⟨k, k', z, h1, h2⟩ := hi i (P.underlying f.type) (by rw [List.getElem?_map, hf]; rfl)
        exact ⟨k, k', z, h1, h2⟩
  rw [e]; rfl
theorem neq_98 (o : Img.Op) : binA Tryz.prog .neq 98 (opAV o) (opAV o) = some (.bool false) := neq_agg st_98 fl_98 rfl fun i u hu => by
  rcases i with _ | _ | _ | _ | _ | _ | i <;> simp at hu <;> subst hu <;> exact ⟨_, _, _, rfl, rfl⟩
theorem neq_52 (x y : Int) : binA Tryz.prog .neq 52 (.agg [.int .i64 x, .int .i64 y]) (.agg [.int .i64 x, .int .i64 y]) = some (.bool false) := neq_agg st_52 fl_52 rfl fun i u hu => by
  rcases i with _ | _ | i <;> simp at hu <;> subst hu <;> exact ⟨_, _, _, rfl, rfl⟩
theorem gl26 : (List.range 26).all (isGlob 67108863) = true := by kernel_rfl
theorem gl27 : (List.range 27).all (isGlob 134217727) = true := by kernel_rfl
variable {ρ ρ0 : Rho} {H H0 : Hp} {w w0 : World} {a : Act} {Q : Exit → Act → World → Prop} {Wr : Nat → Prop}

noncomputable abbrev c34 : Code := codeOf Tryz.f34
noncomputable abbrev s34 : Code := seqR (seqR c34)
noncomputable abbrev l34 : Code := loopB (blkB (seqR (seqL s34)))
noncomputable abbrev r34 : Code := seqL (seqR (blkB (seqL (seqR (seqR l34)))))
theorem plan34 : drawPlan (opsOf r34) = some [⟨0, [], []⟩, ⟨1, [], []⟩, ⟨2, [], []⟩, ⟨3, [], []⟩, ⟨4, [], []⟩, ⟨5, [], []⟩, ⟨6, [], []⟩, ⟨7, [], []⟩, ⟨8, [], []⟩] := by kernel_rfl
noncomputable abbrev Q34 (ρ0 : Rho) (H0 : Hp) (w0 : World) : Exit → Act → World → Prop := Exit.inBlock 0 (Exit.then ((seqR s34).wp Tryz.prog (bodyPostD Tryz.prog Tryz.f34 (Post ρ0 H0 w0 (Pure (.bool true) H0)))) (bodyPostD Tryz.prog Tryz.f34 (Post ρ0 H0 w0 (Pure (.bool true) H0))))
theorem same34_lp (l : List Img.Op) (hl : l.length ≤ 2305843009213693952) (V V' : AV) (hV : SlOps H0 V l) (hV' : SlOps H0 V' l) : ∀ (k i : Nat), i + k = l.length → ∀ (ρ : Rho) (H : Hp) (a : Act) (w : World), Sx Tryz.prog ρ0 H0 w0 26 No [] (listF [(0, V), (1, V'), (12, .int .i64 (l.length : Int)), (13, .int .i64 (i : Int))]) ρ H a w → LoopWp Tryz.prog l34 (Q34 ρ0 H0 w0) a w := by
  intro k
  induction k with
  | zero =>
    intro i hi ρ H a w hX
    have hlt : ¬ ((i : Int) < (l.length : Int)) := by omega
    refine LoopWp.unroll (wp_seq (wp_region ?_))
    refine sx_q _ _ (.bool false) rfl rfl rfl (by decide) hX rfl (hop_bin rfl rfl (bin_lss (decide_eq_false hlt))) fun a hX => ?_
    refine wp_seq (sx_false hX rfl (wp_exit ?_))
    refine then_exit (then_exit (inBlock_hit ?_))
    show ((seqR s34).wp Tryz.prog _ _ _)
    refine wp_seq (wp_region ?_)
    refine sx_q _ _ (.bool true) rfl rfl rfl (by decide) hX rfl rfl fun a hX => ?_
    exact sx_ret1 4 _ hX rfl rfl (hX.pure _) id
  | succ k ih =>
    intro i hi ρ H a w hX
    have hlt : ((i : Int) < (l.length : Int)) := by omega
    have hi2 : i < l.length := by omega
    obtain ⟨o, ho⟩ : ∃ o, l[i]? = some o := ⟨_, List.getElem?_eq_getElem hi2⟩
    have hh := ih
    rcases hV with ⟨_, rfl⟩ | ⟨bl, ol, cl, cs, rfl, hltb, hc, hrow⟩
    · simp at hi2
    rcases hV' with ⟨_, rfl⟩ | ⟨bl', ol', cl', cs', rfl, hltb', hc', hrow'⟩
    · simp at hi2
    obtain ⟨hr1, hr2⟩ := hrow i o ho
    obtain ⟨hr1', hr2'⟩ := hrow' i o ho
    have hc := hX.old hc hltb (fun h => h)
    have hc' := hX.old hc' hltb' (fun h => h)
    refine LoopWp.unroll (wp_seq (wp_region ?_))
    refine sx_q _ _ (.bool true) rfl rfl rfl (by decide) hX rfl (hop_bin rfl rfl (bin_lss (decide_eq_true hlt))) fun a hX => ?_
    refine wp_seq (sx_true hX rfl (wp_skip ?_))
    refine wp_seq (wp_block (wp_seq (wp_region ?_)))
    refine sx_q _ _ _ rfl rfl rfl (by decide) hX rfl rfl fun a hX => ?_
    refine sx_q _ _ _ rfl rfl rfl (by decide) hX rfl rfl fun a hX => ?_
    refine wp_seq ?_
    have hX := hX.slots [(0, .slice bl ol l.length cl), (1, .slice bl' ol' l.length cl'), (12, .int .i64 (l.length : Int)), (13, .int .i64 (i : Int)), (5, .int .i64 (i : Int))] ⟨rfl, rfl, rfl, rfl, rfl, trivial⟩
    refine sx_draw fo noCall_ok 67108863 [(0, .slice bl ol l.length cl), (1, .slice bl' ol' l.length cl'), (12, .int .i64 (l.length : Int)), (13, .int .i64 (i : Int)), (5, .int .i64 (i : Int))] _ _ H hX ⟨rfl, rfl, rfl, rfl, rfl, trivial⟩ plan34
      (draw_val rfl rfl rfl rfl rfl rfl (draw_val rfl rfl rfl rfl rfl rfl (draw_val rfl rfl rfl (hop_index ix_45 rfl rfl hi2) rfl rfl (draw_val (v := opAV o) rfl rfl rfl (hop_loadN ty_98 rfl (hc.loadN hr1 hr2)) rfl rfl
        (draw_val rfl rfl rfl rfl rfl rfl (draw_val rfl rfl rfl rfl rfl rfl (draw_val rfl rfl rfl (hop_index ix_45 rfl rfl hi2) rfl rfl (draw_val (v := opAV o) rfl rfl rfl (hop_loadN ty_98 rfl (hc'.loadN hr1' hr2')) rfl rfl
          (draw_val (v := .bool false) rfl rfl rfl (hop_bin rfl rfl (neq_98 o)) rfl rfl rfl))))))))) fun ρ a w hE hd hr hxx => ?_
    have hX := hX.stayD hr hxx (EnvS.sl gl26 hE [(0, .slice bl ol l.length cl), (1, .slice bl' ol' l.length cl'), (12, .int .i64 (l.length : Int)), (13, .int .i64 (i : Int)), (24, .bool false)] ⟨⟨rfl, rfl⟩, ⟨rfl, rfl⟩, ⟨rfl, rfl⟩, ⟨rfl, rfl⟩, ⟨rfl, rfl⟩, trivial⟩) hd
    refine sx_false hX rfl (wp_skip ?_)
    show ((seqR (seqR (seqR l34))).wp _ _ _ _)
    refine wp_region ?_
    have e2 : IntKind.i64.wrap ((i : Int) + Int.ofNat 1) = ((i + 1 : Nat) : Int) := by rw [wrap_i64]; unfold Img.wrapI; show ((i : Int) + 1 + _) % _ - _ = _; omega
    refine sx_q _ _ (.int .i64 ((i + 1 : Nat) : Int)) rfl rfl rfl (by decide) hX rfl (by rw [← e2]; exact hop_bin rfl rfl bin_add) fun a hX => ?_
    refine sx_q _ _ _ rfl rfl rfl (by decide) hX rfl rfl fun a hX => ?_
    exact hh (i + 1) (by omega) ρ H _ w (hX.slots _ ⟨rfl, rfl, rfl, rfl, trivial⟩)
theorem same34_spec (l : List Img.Op) (hl : l.length ≤ 2305843009213693952) (V V' : AV) (hV : SlOps H V l) (hV' : SlOps H V' l) : Spec Tryz.prog 34 [V, V'] H (Pure (.bool true) H) := by
  refine spec_body0 26 Tryz.func34 rfl Tryz.ntmps34 (by simp) fun ρ w a hX => ?_
  refine wp_seq (wp_region ?_)
  refine sx_q _ _ _ rfl rfl rfl (by decide) hX rfl rfl fun a hX => ?_
  refine wp_seq (wp_seq (wp_region ?_))
  refine sx_q _ _ _ rfl rfl rfl (by decide) hX rfl rfl fun a hX => ?_
  refine sx_q _ _ (.int .i64 (l.length : Int)) rfl rfl rfl (by decide) hX rfl (hop_lenS hV rfl) fun a hX => ?_
  refine sx_q _ _ _ rfl rfl rfl (by decide) hX rfl rfl fun a hX => ?_
  refine sx_q _ _ (.int .i64 (l.length : Int)) rfl rfl rfl (by decide) hX rfl (hop_lenS hV' rfl) fun a hX => ?_
  refine sx_q _ _ (.bool false) rfl rfl rfl (by decide) hX rfl (hop_bin rfl rfl (bin_neq_f rfl)) fun a hX => ?_
  refine sx_false hX rfl (wp_skip ?_)
  show s34.wp _ _ _ _
  refine wp_seq (wp_seq (wp_region ?_))
  refine sx_q _ _ _ rfl rfl rfl (by decide) hX rfl rfl fun a hX => ?_
  refine sx_q _ _ (.int .i64 (l.length : Int)) rfl rfl rfl (by decide) hX rfl (hop_lenS hV rfl) fun a hX => ?_
  refine sx_q _ _ _ rfl rfl rfl (by decide) hX rfl rfl fun a hX => ?_
  refine wp_block (LoopWp.wp ?_)
  exact same34_lp l hl  V V' hV hV' l.length 0 (by omega) ρ H _ w (hX.slots _ ⟨rfl, rfl, rfl, rfl, trivial⟩)

noncomputable abbrev c22 : Code := codeOf Tryz.f22
noncomputable abbrev s22 : Code := seqR (seqR c22)
noncomputable abbrev l22 : Code := loopB (blkB (seqR (seqL s22)))
noncomputable abbrev r22 : Code := seqL (seqR (blkB (seqL (seqR (seqR l22)))))
theorem plan22 : drawPlan (opsOf r22) = some [⟨0, [], []⟩, ⟨1, [], []⟩, ⟨2, [], []⟩, ⟨3, [], []⟩, ⟨4, [], []⟩, ⟨5, [], []⟩, ⟨6, [], []⟩, ⟨7, [], []⟩, ⟨8, [], []⟩] := by kernel_rfl
noncomputable abbrev Q22 (ρ0 : Rho) (H0 : Hp) (w0 : World) : Exit → Act → World → Prop := Exit.inBlock 0 (Exit.then ((seqR s22).wp Tryz.prog (bodyPostD Tryz.prog Tryz.f22 (Post ρ0 H0 w0 (Pure (.bool true) H0)))) (bodyPostD Tryz.prog Tryz.f22 (Post ρ0 H0 w0 (Pure (.bool true) H0))))
theorem same22_lp (l : List (Int × Int)) (hl : l.length ≤ 2305843009213693952) (V V' : AV) (hV : SlCells H0 V l) (hV' : SlCells H0 V' l) : ∀ (k i : Nat), i + k = l.length → ∀ (ρ : Rho) (H : Hp) (a : Act) (w : World), Sx Tryz.prog ρ0 H0 w0 26 No [] (listF [(0, V), (1, V'), (12, .int .i64 (l.length : Int)), (13, .int .i64 (i : Int))]) ρ H a w → LoopWp Tryz.prog l22 (Q22 ρ0 H0 w0) a w := by
  intro k
  induction k with
  | zero =>
    intro i hi ρ H a w hX
    have hlt : ¬ ((i : Int) < (l.length : Int)) := by omega
    refine LoopWp.unroll (wp_seq (wp_region ?_))
    refine sx_q _ _ (.bool false) rfl rfl rfl (by decide) hX rfl (hop_bin rfl rfl (bin_lss (decide_eq_false hlt))) fun a hX => ?_
    refine wp_seq (sx_false hX rfl (wp_exit ?_))
    refine then_exit (then_exit (inBlock_hit ?_))
    show ((seqR s22).wp Tryz.prog _ _ _)
    refine wp_seq (wp_region ?_)
    refine sx_q _ _ (.bool true) rfl rfl rfl (by decide) hX rfl rfl fun a hX => ?_
    exact sx_ret1 4 _ hX rfl rfl (hX.pure _) id
  | succ k ih =>
    intro i hi ρ H a w hX
    have hlt : ((i : Int) < (l.length : Int)) := by omega
    have hi2 : i < l.length := by omega
    obtain ⟨o, ho⟩ : ∃ o, l[i]? = some o := ⟨_, List.getElem?_eq_getElem hi2⟩
    have hh := ih
    rcases hV with ⟨_, rfl⟩ | ⟨bl, ol, cl, cs, rfl, hltb, hc, hrow⟩
    · simp at hi2
    rcases hV' with ⟨_, rfl⟩ | ⟨bl', ol', cl', cs', rfl, hltb', hc', hrow'⟩
    · simp at hi2
    obtain ⟨hr1, hr2⟩ := hrow i o ho
    obtain ⟨hr1', hr2'⟩ := hrow' i o ho
    have hc := hX.old hc hltb (fun h => h)
    have hc' := hX.old hc' hltb' (fun h => h)
    refine LoopWp.unroll (wp_seq (wp_region ?_))
    refine sx_q _ _ (.bool true) rfl rfl rfl (by decide) hX rfl (hop_bin rfl rfl (bin_lss (decide_eq_true hlt))) fun a hX => ?_
    refine wp_seq (sx_true hX rfl (wp_skip ?_))
    refine wp_seq (wp_block (wp_seq (wp_region ?_)))
    refine sx_q _ _ _ rfl rfl rfl (by decide) hX rfl rfl fun a hX => ?_
    refine sx_q _ _ _ rfl rfl rfl (by decide) hX rfl rfl fun a hX => ?_
    refine wp_seq ?_
    have hX := hX.slots [(0, .slice bl ol l.length cl), (1, .slice bl' ol' l.length cl'), (12, .int .i64 (l.length : Int)), (13, .int .i64 (i : Int)), (5, .int .i64 (i : Int))] ⟨rfl, rfl, rfl, rfl, rfl, trivial⟩
    refine sx_draw fo noCall_ok 67108863 [(0, .slice bl ol l.length cl), (1, .slice bl' ol' l.length cl'), (12, .int .i64 (l.length : Int)), (13, .int .i64 (i : Int)), (5, .int .i64 (i : Int))] _ _ H hX ⟨rfl, rfl, rfl, rfl, rfl, trivial⟩ plan22
      (draw_val rfl rfl rfl rfl rfl rfl (draw_val rfl rfl rfl rfl rfl rfl (draw_val rfl rfl rfl (hop_index ix_23 rfl rfl hi2) rfl rfl (draw_val (v := .agg [.int .i64 o.1, .int .i64 o.2]) rfl rfl rfl (hop_loadN ty_52 rfl (hc.loadN hr1 hr2)) rfl rfl
        (draw_val rfl rfl rfl rfl rfl rfl (draw_val rfl rfl rfl rfl rfl rfl (draw_val rfl rfl rfl (hop_index ix_23 rfl rfl hi2) rfl rfl (draw_val (v := .agg [.int .i64 o.1, .int .i64 o.2]) rfl rfl rfl (hop_loadN ty_52 rfl (hc'.loadN hr1' hr2')) rfl rfl
          (draw_val (v := .bool false) rfl rfl rfl (hop_bin rfl rfl (neq_52 o.1 o.2)) rfl rfl rfl))))))))) fun ρ a w hE hd hr hxx => ?_
    have hX := hX.stayD hr hxx (EnvS.sl gl26 hE [(0, .slice bl ol l.length cl), (1, .slice bl' ol' l.length cl'), (12, .int .i64 (l.length : Int)), (13, .int .i64 (i : Int)), (24, .bool false)] ⟨⟨rfl, rfl⟩, ⟨rfl, rfl⟩, ⟨rfl, rfl⟩, ⟨rfl, rfl⟩, ⟨rfl, rfl⟩, trivial⟩) hd
    refine sx_false hX rfl (wp_skip ?_)
    show ((seqR (seqR (seqR l22))).wp _ _ _ _)
    refine wp_region ?_
    have e2 : IntKind.i64.wrap ((i : Int) + Int.ofNat 1) = ((i + 1 : Nat) : Int) := by rw [wrap_i64]; unfold Img.wrapI; show ((i : Int) + 1 + _) % _ - _ = _; omega
    refine sx_q _ _ (.int .i64 ((i + 1 : Nat) : Int)) rfl rfl rfl (by decide) hX rfl (by rw [← e2]; exact hop_bin rfl rfl bin_add) fun a hX => ?_
    refine sx_q _ _ _ rfl rfl rfl (by decide) hX rfl rfl fun a hX => ?_
    exact hh (i + 1) (by omega) ρ H _ w (hX.slots _ ⟨rfl, rfl, rfl, rfl, trivial⟩)
theorem same22_spec (l : List (Int × Int)) (hl : l.length ≤ 2305843009213693952) (V V' : AV) (hV : SlCells H V l) (hV' : SlCells H V' l) : Spec Tryz.prog 22 [V, V'] H (Pure (.bool true) H) := by
  refine spec_body0 26 Tryz.func22 rfl Tryz.ntmps22 (by simp) fun ρ w a hX => ?_
  refine wp_seq (wp_region ?_)
  refine sx_q _ _ _ rfl rfl rfl (by decide) hX rfl rfl fun a hX => ?_
  refine wp_seq (wp_seq (wp_region ?_))
  refine sx_q _ _ _ rfl rfl rfl (by decide) hX rfl rfl fun a hX => ?_
  refine sx_q _ _ (.int .i64 (l.length : Int)) rfl rfl rfl (by decide) hX rfl (hop_lenCells hV rfl) fun a hX => ?_
  refine sx_q _ _ _ rfl rfl rfl (by decide) hX rfl rfl fun a hX => ?_
  refine sx_q _ _ (.int .i64 (l.length : Int)) rfl rfl rfl (by decide) hX rfl (hop_lenCells hV' rfl) fun a hX => ?_
  refine sx_q _ _ (.bool false) rfl rfl rfl (by decide) hX rfl (hop_bin rfl rfl (bin_neq_f rfl)) fun a hX => ?_
  refine sx_false hX rfl (wp_skip ?_)
  show s22.wp _ _ _ _
  refine wp_seq (wp_seq (wp_region ?_))
  refine sx_q _ _ _ rfl rfl rfl (by decide) hX rfl rfl fun a hX => ?_
  refine sx_q _ _ (.int .i64 (l.length : Int)) rfl rfl rfl (by decide) hX rfl (hop_lenCells hV rfl) fun a hX => ?_
  refine sx_q _ _ _ rfl rfl rfl (by decide) hX rfl rfl fun a hX => ?_
  refine wp_block (LoopWp.wp ?_)
  exact same22_lp l hl  V V' hV hV' l.length 0 (by omega) ρ H _ w (hX.slots _ ⟨rfl, rfl, rfl, rfl, trivial⟩)

noncomputable abbrev c21 : Code := codeOf Tryz.f21
noncomputable abbrev s21 : Code := seqR (seqR c21)
noncomputable abbrev l21 : Code := loopB (blkB (seqR (seqL s21)))
noncomputable abbrev r21 : Code := seqL (seqR (blkB (seqL (seqR (seqR l21)))))
theorem plan21 : drawPlan (opsOf r21) = some [⟨0, [], []⟩, ⟨1, [], []⟩, ⟨2, [], []⟩, ⟨3, [], []⟩, ⟨4, [], []⟩, ⟨5, [], []⟩, ⟨6, [], []⟩, ⟨7, [], []⟩, ⟨8, [], []⟩, ⟨9, [], []⟩] := by kernel_rfl
theorem en_34 : enterOK Tryz.prog 34 = true := by kernel_rfl
noncomputable abbrev Q21 (ρ0 : Rho) (H0 : Hp) (w0 : World) : Exit → Act → World → Prop := Exit.inBlock 0 (Exit.then ((seqR s21).wp Tryz.prog (bodyPostD Tryz.prog Tryz.f21 (Post ρ0 H0 w0 (Pure (.bool true) H0)))) (bodyPostD Tryz.prog Tryz.f21 (Post ρ0 H0 w0 (Pure (.bool true) H0))))
theorem same21_lp (l : List (List Img.Op)) (hl : l.length ≤ 2305843009213693952) (hlo : ∀ r ∈ l, r.length ≤ 2305843009213693952) (V V' : AV) (hV : SlRows H0 V l) (hV' : SlRows H0 V' l) : ∀ (k i : Nat), i + k = l.length → ∀ (ρ : Rho) (H : Hp) (a : Act) (w : World), Sx Tryz.prog ρ0 H0 w0 27 No [] (listF [(0, V), (1, V'), (12, .int .i64 (l.length : Int)), (13, .int .i64 (i : Int))]) ρ H a w → LoopWp Tryz.prog l21 (Q21 ρ0 H0 w0) a w := by
  intro k
  induction k with
  | zero =>
    intro i hi ρ H a w hX
    have hlt : ¬ ((i : Int) < (l.length : Int)) := by omega
    refine LoopWp.unroll (wp_seq (wp_region ?_))
    refine sx_q _ _ (.bool false) rfl rfl rfl (by decide) hX rfl (hop_bin rfl rfl (bin_lss (decide_eq_false hlt))) fun a hX => ?_
    refine wp_seq (sx_false hX rfl (wp_exit ?_))
    refine then_exit (then_exit (inBlock_hit ?_))
    show ((seqR s21).wp Tryz.prog _ _ _)
    refine wp_seq (wp_region ?_)
    refine sx_q _ _ (.bool true) rfl rfl rfl (by decide) hX rfl rfl fun a hX => ?_
    exact sx_ret1 4 _ hX rfl rfl (hX.pure _) id
  | succ k ih =>
    intro i hi ρ H a w hX
    have hlt : ((i : Int) < (l.length : Int)) := by omega
    have hi2 : i < l.length := by omega
    obtain ⟨o, ho⟩ : ∃ o, l[i]? = some o := ⟨_, List.getElem?_eq_getElem hi2⟩
    have hh := ih
    rcases hV with ⟨_, rfl⟩ | ⟨bl, ol, cl, cs, rfl, hltb, hc, hrow⟩
    · simp at hi2
    rcases hV' with ⟨_, rfl⟩ | ⟨bl', ol', cl', cs', rfl, hltb', hc', hrow'⟩
    · simp at hi2
    obtain ⟨Vl, hv, hVl⟩ := hrow i o ho
    obtain ⟨Vl', hv', hVl'⟩ := hrow' i o ho
    have hol := hlo o (List.mem_of_getElem? ho)
    have hc := hX.old hc hltb (fun h => h)
    have hc' := hX.old hc' hltb' (fun h => h)
    refine LoopWp.unroll (wp_seq (wp_region ?_))
    refine sx_q _ _ (.bool true) rfl rfl rfl (by decide) hX rfl (hop_bin rfl rfl (bin_lss (decide_eq_true hlt))) fun a hX => ?_
    refine wp_seq (sx_true hX rfl (wp_skip ?_))
    refine wp_seq (wp_block (wp_seq (wp_region ?_)))
    refine sx_q _ _ _ rfl rfl rfl (by decide) hX rfl rfl fun a hX => ?_
    refine sx_q _ _ _ rfl rfl rfl (by decide) hX rfl rfl fun a hX => ?_
    refine wp_seq ?_
    have hX := hX.slots [(0, .slice bl ol l.length cl), (1, .slice bl' ol' l.length cl'), (12, .int .i64 (l.length : Int)), (13, .int .i64 (i : Int)), (5, .int .i64 (i : Int))] ⟨rfl, rfl, rfl, rfl, rfl, trivial⟩
    have hcall : CallOK Tryz.prog (oneCall 34 [Vl, Vl'] H (.ret (.bool true) H)) := oneCall_ok (pure_kpost (k := 1) (same34_spec o hol Vl Vl' (hVl.mono hX.stays hX.next_le) (hVl'.mono hX.stays hX.next_le)) rfl)
    refine sx_draw fo hcall 134217727 [(0, .slice bl ol l.length cl), (1, .slice bl' ol' l.length cl'), (12, .int .i64 (l.length : Int)), (13, .int .i64 (i : Int)), (5, .int .i64 (i : Int))] _ _ H hX ⟨rfl, rfl, rfl, rfl, rfl, trivial⟩ plan21
      (draw_val rfl rfl rfl rfl rfl rfl (draw_val rfl rfl rfl rfl rfl rfl (draw_val rfl rfl rfl (hop_index ix_22 rfl rfl hi2) rfl rfl (draw_val (v := Vl) rfl rfl rfl (hop_load ty_45 rfl (hc.load1 hv)) rfl rfl
        (draw_val rfl rfl rfl rfl rfl rfl (draw_val rfl rfl rfl rfl rfl rfl (draw_val rfl rfl rfl (hop_index ix_22 rfl rfl hi2) rfl rfl (draw_val (v := Vl') rfl rfl rfl (hop_load ty_45 rfl (hc'.load1 hv')) rfl rfl
          (draw_call rfl rfl rfl (hop_callg rfl en_34 rfl) (oneCall_eq _ _ _ _) rfl rfl (draw_val (v := .bool false) rfl rfl rfl rfl rfl rfl rfl)))))))))) fun ρ a w hE hd hr hxx => ?_
    have hX := hX.stayD hr hxx (EnvS.sl gl27 hE [(0, .slice bl ol l.length cl), (1, .slice bl' ol' l.length cl'), (12, .int .i64 (l.length : Int)), (13, .int .i64 (i : Int)), (25, .bool false)] ⟨⟨rfl, rfl⟩, ⟨rfl, rfl⟩, ⟨rfl, rfl⟩, ⟨rfl, rfl⟩, ⟨rfl, rfl⟩, trivial⟩) hd
    refine sx_false hX rfl (wp_skip ?_)
    show ((seqR (seqR (seqR l21))).wp _ _ _ _)
    refine wp_region ?_
    have e2 : IntKind.i64.wrap ((i : Int) + Int.ofNat 1) = ((i + 1 : Nat) : Int) := by rw [wrap_i64]; unfold Img.wrapI; show ((i : Int) + 1 + _) % _ - _ = _; omega
    refine sx_q _ _ (.int .i64 ((i + 1 : Nat) : Int)) rfl rfl rfl (by decide) hX rfl (by rw [← e2]; exact hop_bin rfl rfl bin_add) fun a hX => ?_
    refine sx_q _ _ _ rfl rfl rfl (by decide) hX rfl rfl fun a hX => ?_
    exact hh (i + 1) (by omega) ρ H _ w (hX.slots _ ⟨rfl, rfl, rfl, rfl, trivial⟩)
theorem same21_spec (l : List (List Img.Op)) (hl : l.length ≤ 2305843009213693952) (hlo : ∀ r ∈ l, r.length ≤ 2305843009213693952) (V V' : AV) (hV : SlRows H V l) (hV' : SlRows H V' l) : Spec Tryz.prog 21 [V, V'] H (Pure (.bool true) H) := by
  refine spec_body0 27 Tryz.func21 rfl Tryz.ntmps21 (by simp) fun ρ w a hX => ?_
  refine wp_seq (wp_region ?_)
  refine sx_q _ _ _ rfl rfl rfl (by decide) hX rfl rfl fun a hX => ?_
  refine wp_seq (wp_seq (wp_region ?_))
  refine sx_q _ _ _ rfl rfl rfl (by decide) hX rfl rfl fun a hX => ?_
  refine sx_q _ _ (.int .i64 (l.length : Int)) rfl rfl rfl (by decide) hX rfl (hop_lenRows hV rfl) fun a hX => ?_
  refine sx_q _ _ _ rfl rfl rfl (by decide) hX rfl rfl fun a hX => ?_
  refine sx_q _ _ (.int .i64 (l.length : Int)) rfl rfl rfl (by decide) hX rfl (hop_lenRows hV' rfl) fun a hX => ?_
  refine sx_q _ _ (.bool false) rfl rfl rfl (by decide) hX rfl (hop_bin rfl rfl (bin_neq_f rfl)) fun a hX => ?_
  refine sx_false hX rfl (wp_skip ?_)
  show s21.wp _ _ _ _
  refine wp_seq (wp_seq (wp_region ?_))
  refine sx_q _ _ _ rfl rfl rfl (by decide) hX rfl rfl fun a hX => ?_
  refine sx_q _ _ (.int .i64 (l.length : Int)) rfl rfl rfl (by decide) hX rfl (hop_lenRows hV rfl) fun a hX => ?_
  refine sx_q _ _ _ rfl rfl rfl (by decide) hX rfl rfl fun a hX => ?_
  refine wp_block (LoopWp.wp ?_)
  exact same21_lp l hl hlo V V' hV hV' l.length 0 (by omega) ρ H _ w (hX.slots _ ⟨rfl, rfl, rfl, rfl, trivial⟩)

end Go.Vex
namespace Go.Vex
open Go.Proofs
set_option maxRecDepth 100000
variable {ρ ρ0 : Rho} {H H0 : Hp} {w w0 : World} {a : Act} {Q : Exit → Act → World → Prop} {Wr : Nat → Prop}
theorem en_21 : enterOK Tryz.prog 21 = true := by kernel_rfl
theorem en_22 : enterOK Tryz.prog 22 = true := by kernel_rfl
theorem en_12 : enterOK Tryz.prog 12 = true := by kernel_rfl
/-- SameImage of what stands for the same. -/
theorem same9_spec (m : Img.Im) (hm : Img.WfI m) (Vc Ve Vc' Ve' : AV) (h1 : SlRows H Vc m.code) (h2 : SlCells H Ve m.cells) (h3 : SlRows H Vc' m.code) (h4 : SlCells H Ve' m.cells) : Spec Tryz.prog 9 [.agg (cellsM Vc m.mem Ve), .agg (cellsM Vc' m.mem Ve')] H (Pure (.bool true) H) := by
  refine spec_body0 24 Tryz.func9 rfl Tryz.ntmps9 (by simp) fun ρ w a hX => ?_
  refine wp_seq (wp_region ?_)
  refine sx_new _ _ (fun b => .ptr b 0) _ rfl rfl rfl (by decide) hX (hop_box rfl rfl) fun b ρ H1 a w hX => ?_
  refine sx_new _ _ (fun b => .ptr b 0) _ rfl rfl rfl (by decide) hX (hop_box rfl rfl) fun c ρ H1 a w hX => ?_
  refine sx_q _ _ _ rfl rfl rfl (by decide) hX rfl rfl fun a hX => ?_
  refine wp_seq (wp_region ?_)
  refine sx_q _ _ _ rfl rfl rfl (by decide) hX rfl (hop_field' fz_25_1 rfl) fun a hX => ?_
  refine sx_q _ _ (.int .i64 m.mem) rfl rfl rfl (by decide) hX rfl (hop_load ty_3 rfl (hX.ld 0 rfl rfl)) fun a hX => ?_
  refine sx_q _ _ _ rfl rfl rfl (by decide) hX rfl (hop_field' fz_25_1 rfl) fun a hX => ?_
  refine sx_q _ _ (.int .i64 m.mem) rfl rfl rfl (by decide) hX rfl (hop_load ty_3 rfl (hX.ld 1 rfl rfl)) fun a hX => ?_
  refine sx_q _ _ (.bool true) rfl rfl rfl (by decide) hX rfl (hop_bin rfl rfl (bin_eql (decide_eq_true rfl))) fun a hX => ?_
  refine sx_q _ _ (.bool true) rfl rfl rfl (by decide) hX rfl rfl fun a hX => ?_
  refine sx_gt _ _ _ rfl rfl rfl (by decide) hX rfl (hop_field' fz_25_0 rfl) fun a hX => ?_
  refine sx_gt _ _ Vc rfl rfl rfl (by decide) hX rfl (hop_load ty_22 rfl (hX.ld 0 rfl rfl)) fun a hX => ?_
  refine sx_gt _ _ _ rfl rfl rfl (by decide) hX rfl (hop_field' fz_25_0 rfl) fun a hX => ?_
  refine sx_gt _ _ Vc' rfl rfl rfl (by decide) hX rfl (hop_load ty_22 rfl (hX.ld 1 rfl rfl)) fun a hX => ?_
  refine sx_gpure _ _ 21 [Vc, Vc'] (.bool true) rfl rfl rfl (by decide) hX (hop_callf en_21 rfl) (same21_spec m.code (by have := hm.2.1; omega) (fun r hr => (hm.1 r hr).2) Vc Vc' (h1.mono hX.stays hX.next_le) (h3.mono hX.stays hX.next_le)) fun ρ H1 a w hX => ?_
  refine sx_q _ _ (.bool true) rfl rfl rfl (by decide) hX rfl rfl fun a hX => ?_
  refine sx_q _ _ (.bool true) rfl rfl rfl (by decide) hX rfl rfl fun a hX => ?_
  refine sx_gt _ _ _ rfl rfl rfl (by decide) hX rfl (hop_field' fz_25_2 rfl) fun a hX => ?_
  refine sx_gt _ _ Ve rfl rfl rfl (by decide) hX rfl (hop_load ty_23 rfl (hX.ld 0 rfl rfl)) fun a hX => ?_
  refine sx_gt _ _ _ rfl rfl rfl (by decide) hX rfl (hop_field' fz_25_2 rfl) fun a hX => ?_
  refine sx_gt _ _ Ve' rfl rfl rfl (by decide) hX rfl (hop_load ty_23 rfl (hX.ld 1 rfl rfl)) fun a hX => ?_
  refine sx_gpure _ _ 22 [Ve, Ve'] (.bool true) rfl rfl rfl (by decide) hX (hop_callf en_22 rfl) (same22_spec m.cells hm.2.2 Ve Ve' (h2.mono hX.stays hX.next_le) (h4.mono hX.stays hX.next_le)) fun ρ H1 a w hX => ?_
  refine sx_q _ _ (.bool true) rfl rfl rfl (by decide) hX rfl rfl fun a hX => ?_
  refine sx_q _ _ (.bool true) rfl rfl rfl (by decide) hX rfl rfl fun a hX => ?_
  exact sx_ret1 4 _ hX rfl rfl (hX.pure _) id
def cntdV (n : Int) : Int := if n < 0 then 262145 else 262144 - n
theorem cntd_spec (n : Int) (hn : n ≤ 262144) : Spec Tryz.prog 12 [.int .i64 n] H (Pure (.int .i64 (cntdV n)) H) := by
  refine spec_body0 7 Tryz.func12 rfl Tryz.ntmps12 (by simp) fun ρ w a hX => ?_
  refine wp_seq (wp_region ?_)
  refine sx_q _ _ _ rfl rfl rfl (by decide) hX rfl rfl fun a hX => ?_
  refine wp_seq (wp_seq (wp_region ?_))
  refine sx_q _ _ _ rfl rfl rfl (by decide) hX rfl rfl fun a hX => ?_
  by_cases h : n < 0
  · have e : cntdV n = 262145 := by unfold cntdV; rw [if_pos h]
    rw [e]
    refine sx_q _ _ (.bool true) rfl rfl rfl (by decide) hX rfl (hop_bin rfl rfl (bin_lss (decide_eq_true h))) fun a hX => ?_
    refine sx_true hX rfl (wp_seq (wp_region ?_))
    refine sx_q _ _ (.int .i64 262145) rfl rfl rfl (by decide) hX rfl rfl fun a hX => ?_
    exact sx_ret1 2 _ hX rfl rfl (hX.pure _) id
  · have e : cntdV n = 262144 - n := by unfold cntdV; rw [if_neg h]
    rw [e]
    refine sx_q _ _ (.bool false) rfl rfl rfl (by decide) hX rfl (hop_bin rfl rfl (bin_lss (decide_eq_false h))) fun a hX => ?_
    refine sx_false hX rfl (wp_skip ?_)
    show ((seqR (seqR (codeOf Tryz.f12))).wp _ _ _ _)
    refine wp_seq (wp_region ?_)
    refine sx_q _ _ _ rfl rfl rfl (by decide) hX rfl rfl fun a hX => ?_
    have e2 : IntKind.i64.wrap (262144 - n) = 262144 - n := by rw [wrap_i64]; unfold Img.wrapI; omega
    refine sx_q _ _ (.int .i64 (262144 - n)) rfl rfl rfl (by decide) hX rfl (by rw [← e2]; exact hop_bin rfl rfl bin_sub) fun a hX => ?_
    refine sx_q _ _ _ rfl rfl rfl (by decide) hX rfl rfl fun a hX => ?_
    exact sx_ret1 2 _ hX rfl rfl (hX.pure _) id
def leftV : Int → List (List Img.Op) → Int
  | n, [] => n
  | n, r :: l => if n < 0 then n else leftV (n - 1 - (r.length : Int)) l
theorem leftV_le : ∀ (l : List (List Img.Op)) (n : Int), leftV n l ≤ n := by
  intro l
  induction l with
  | nil => intro n; exact Int.le_refl _
  | cons r l ih =>
    intro n
    unfold leftV
    split
    · omega
    · have := ih (n - 1 - (r.length : Int)); omega
def sizeV (m : Img.Im) : Int := cntdV (leftV (262144 - (m.cells.length : Int)) m.code)
noncomputable abbrev c6 : Code := codeOf Tryz.f6
noncomputable abbrev i6 : Code := seqR (seqR c6)
noncomputable abbrev l6 : Code := loopB (blkB (seqR (seqL i6)))
noncomputable abbrev Q6 (m : Img.Im) (ρ0 : Rho) (H0 : Hp) (w0 : World) : Exit → Act → World → Prop := Exit.inBlock 0 (Exit.then ((seqR i6).wp Tryz.prog (bodyPostD Tryz.prog Tryz.f6 (Post ρ0 H0 w0 (Pure (.int .i64 (sizeV m)) H0)))) (bodyPostD Tryz.prog Tryz.f6 (Post ρ0 H0 w0 (Pure (.int .i64 (sizeV m)) H0))))
/-- Lengths as any machine has them. -/
def WfL (m : Img.Im) : Prop := (∀ l ∈ m.code, l.length ≤ 9223372036854775807) ∧ m.code.length ≤ 9223372036854775807 ∧ m.cells.length ≤ 9223372036854775807
theorem size_lp (m : Img.Im) (hm : WfL m) (Vc Ve : AV) (hV : SlRows H0 Vc m.code) (b : Nat) : ∀ (k i : Nat), i + k = m.code.length → ∀ (n : Int), n ≤ 262144 → -9223372036854775808 ≤ n → sizeV m = cntdV (leftV n (m.code.drop i)) → ∀ (ρ : Rho) (H : Hp) (a : Act) (w : World), Sx Tryz.prog ρ0 H0 w0 31 No [(b, cellsM Vc m.mem Ve)] (listF [(1, .ptr b 0), (3, .int .i64 n), (4, .int .i64 (i : Int))]) ρ H a w → LoopWp Tryz.prog l6 (Q6 m ρ0 H0 w0) a w := by
  have out : ∀ (n : Int), n ≤ 262144 → sizeV m = cntdV n → ∀ (F : SlF) (Ψ : List (Nat × List AV)) (ρ : Rho) (H : Hp) (a : Act) (w : World), F 3 = some (.int .i64 n) → Sx Tryz.prog ρ0 H0 w0 31 No Ψ F ρ H a w → (seqR i6).wp Tryz.prog (bodyPostD Tryz.prog Tryz.f6 (Post ρ0 H0 w0 (Pure (.int .i64 (sizeV m)) H0))) a w := by
    intro n hn hs F Ψ ρ H a w hF hX
    have hX := hX.slots [(3, .int .i64 n)] ⟨hF, trivial⟩
    refine wp_seq (wp_region ?_)
    refine sx_q _ _ _ rfl rfl rfl (by decide) hX rfl rfl fun a hX => ?_
    refine sx_pure _ _ 12 [.int .i64 n] (.int .i64 (cntdV n)) rfl rfl rfl (by decide) hX (hop_callf en_12 rfl) (cntd_spec n hn) fun ρ H1 a w hX => ?_
    refine sx_q _ _ _ rfl rfl rfl (by decide) hX rfl rfl fun a hX => ?_
    rw [hs]
    exact sx_ret1 2 _ hX rfl rfl (hX.pure _) id
  intro k
  induction k with
  | zero =>
    intro i hi n hn1 hn2 hs ρ H a w hX
    have hlt : ¬ ((i : Int) < (m.code.length : Int)) := by omega
    refine LoopWp.unroll (wp_seq (wp_seq (wp_region ?_)))
    refine sx_q _ _ _ rfl rfl rfl (by decide) hX rfl rfl fun a hX => ?_
    refine sx_q _ _ _ rfl rfl rfl (by decide) hX rfl (hop_field' fz_25_0 rfl) fun a hX => ?_
    refine sx_q _ _ Vc rfl rfl rfl (by decide) hX rfl (hop_load ty_22 rfl (hX.ld 0 rfl rfl)) fun a hX => ?_
    refine sx_q _ _ (.int .i64 (m.code.length : Int)) rfl rfl rfl (by decide) hX rfl (hop_lenRows hV rfl) fun a hX => ?_
    refine sx_q _ _ (.bool false) rfl rfl rfl (by decide) hX rfl (hop_bin rfl rfl (bin_lss (decide_eq_false hlt))) fun a hX => ?_
    refine sx_q _ _ (.bool false) rfl rfl rfl (by decide) hX rfl rfl fun a hX => ?_
    refine sx_gf _ _ rfl rfl rfl (by decide) hX rfl fun a hX => ?_
    refine sx_gf _ _ rfl rfl rfl (by decide) hX rfl fun a hX => ?_
    refine sx_q _ _ (.bool false) rfl rfl rfl (by decide) hX rfl rfl fun a hX => ?_
    refine sx_false hX rfl (wp_exit ?_)
    refine then_exit (then_exit (inBlock_hit ?_))
    rw [List.drop_eq_nil_iff.2 (by omega)] at hs
    exact out n hn1 hs _ _ _ _ _ _ rfl hX
  | succ k ih =>
    intro i hi n hn1 hn2 hs ρ H a w hX
    have hlt : ((i : Int) < (m.code.length : Int)) := by omega
    have hi2 : i < m.code.length := by omega
    obtain ⟨r, hr⟩ : ∃ r, m.code[i]? = some r := ⟨_, List.getElem?_eq_getElem hi2⟩
    have hrl := hm.1 r (List.mem_of_getElem? hr)
    have hd : m.code.drop i = r :: m.code.drop (i + 1) := by rw [List.drop_eq_getElem?_toList_append, hr]; rfl
    rw [hd] at hs
    refine LoopWp.unroll (wp_seq (wp_seq (wp_region ?_)))
    refine sx_q _ _ _ rfl rfl rfl (by decide) hX rfl rfl fun a hX => ?_
    refine sx_q _ _ _ rfl rfl rfl (by decide) hX rfl (hop_field' fz_25_0 rfl) fun a hX => ?_
    refine sx_q _ _ Vc rfl rfl rfl (by decide) hX rfl (hop_load ty_22 rfl (hX.ld 0 rfl rfl)) fun a hX => ?_
    refine sx_q _ _ (.int .i64 (m.code.length : Int)) rfl rfl rfl (by decide) hX rfl (hop_lenRows hV rfl) fun a hX => ?_
    refine sx_q _ _ (.bool true) rfl rfl rfl (by decide) hX rfl (hop_bin rfl rfl (bin_lss (decide_eq_true hlt))) fun a hX => ?_
    refine sx_q _ _ (.bool true) rfl rfl rfl (by decide) hX rfl rfl fun a hX => ?_
    refine sx_gt _ _ _ rfl rfl rfl (by decide) hX rfl rfl fun a hX => ?_
    by_cases hn0 : (0 : Int) ≤ n
    rotate_left
    · refine sx_gt _ _ (.bool false) rfl rfl rfl (by decide) hX rfl (hop_bin rfl rfl (bin_geq (decide_eq_false hn0))) fun a hX => ?_
      refine sx_q _ _ (.bool false) rfl rfl rfl (by decide) hX rfl rfl fun a hX => ?_
      refine sx_false hX rfl (wp_exit ?_)
      refine then_exit (then_exit (inBlock_hit ?_))
      have e : leftV n (r :: m.code.drop (i + 1)) = n := by unfold leftV; rw [if_pos (by omega)]
      rw [e] at hs
      exact out n hn1 hs _ _ _ _ _ _ rfl hX
    · refine sx_gt _ _ (.bool true) rfl rfl rfl (by decide) hX rfl (hop_bin rfl rfl (bin_geq (decide_eq_true hn0))) fun a hX => ?_
      refine sx_q _ _ (.bool true) rfl rfl rfl (by decide) hX rfl rfl fun a hX => ?_
      refine sx_true hX rfl (wp_skip ?_)
      have e : leftV n (r :: m.code.drop (i + 1)) = leftV (n - 1 - (r.length : Int)) (m.code.drop (i + 1)) := by
        conv => lhs; unfold leftV
        rw [if_neg (by omega)]
      rw [e] at hs
      have hh := ih (i + 1) (by omega) (n - 1 - (r.length : Int)) (by omega) (by omega) hs
      have hV2 := hV
      rcases hV with ⟨_, hn⟩ | ⟨bl, ol, cl, cs, rfl, hltb, hc, hrow⟩
      · rw [hn] at hi2; simp at hi2
      obtain ⟨Vl, hv, hVl⟩ := hrow i r hr
      have hc := hX.old hc hltb (fun h => h)
      refine wp_seq (wp_block (wp_region ?_))
      refine sx_q _ _ _ rfl rfl rfl (by decide) hX rfl rfl fun a hX => ?_
      have e1 : IntKind.i64.wrap (n - 1) = n - 1 := by rw [wrap_i64]; unfold Img.wrapI; omega
      refine sx_q _ _ (.int .i64 (n - 1)) rfl rfl rfl (by decide) hX rfl (by rw [← e1]; exact hop_bin rfl rfl bin_sub) fun a hX => ?_
      refine sx_q _ _ _ rfl rfl rfl (by decide) hX rfl (hop_field' fz_25_0 rfl) fun a hX => ?_
      refine sx_q _ _ (.slice bl ol m.code.length cl) rfl rfl rfl (by decide) hX rfl (hop_load ty_22 rfl (hX.ld 0 rfl rfl)) fun a hX => ?_
      refine sx_q _ _ _ rfl rfl rfl (by decide) hX rfl rfl fun a hX => ?_
      refine sx_q _ _ (.ptr bl (ol + i * 1)) rfl rfl rfl (by decide) hX rfl (hop_index ix_22 rfl rfl hi2) fun a hX => ?_
      refine sx_q _ _ Vl rfl rfl rfl (by decide) hX rfl (hop_load ty_45 rfl (hc.load1 hv)) fun a hX => ?_
      refine sx_q _ _ (.int .i64 (r.length : Int)) rfl rfl rfl (by decide) hX rfl (hop_lenS hVl rfl) fun a hX => ?_
      have e3 : IntKind.i64.wrap (n - 1 - (r.length : Int)) = n - 1 - (r.length : Int) := by rw [wrap_i64]; unfold Img.wrapI; omega
      refine sx_q _ _ (.int .i64 (n - 1 - (r.length : Int))) rfl rfl rfl (by decide) hX rfl (by rw [← e3]; exact hop_bin rfl rfl bin_sub) fun a hX => ?_
      refine sx_q _ _ _ rfl rfl rfl (by decide) hX rfl rfl fun a hX => ?_
      show ((seqR (seqR l6)).wp _ _ _ _)
      refine wp_region ?_
      refine sx_q _ _ _ rfl rfl rfl (by decide) hX rfl rfl fun a hX => ?_
      have hml := hm.2.1
      have e2 : IntKind.i64.wrap ((i : Int) + Int.ofNat 1) = ((i + 1 : Nat) : Int) := by rw [wrap_i64]; unfold Img.wrapI; show ((i : Int) + 1 + _) % _ - _ = _; omega
      refine sx_q _ _ (.int .i64 ((i + 1 : Nat) : Int)) rfl rfl rfl (by decide) hX rfl (by rw [← e2]; exact hop_bin rfl rfl bin_add) fun a hX => ?_
      refine sx_q _ _ _ rfl rfl rfl (by decide) hX rfl rfl fun a hX => ?_
      exact hh ρ H _ w (hX.slots _ ⟨rfl, rfl, rfl, trivial⟩)
theorem size_spec (m : Img.Im) (hm : WfL m) (Vc Ve : AV) (h1 : SlRows H Vc m.code) (h2 : SlCells H Ve m.cells) : Spec Tryz.prog 6 [.agg (cellsM Vc m.mem Ve)] H (Pure (.int .i64 (sizeV m)) H) := by
  refine spec_body0 31 Tryz.func6 rfl Tryz.ntmps6 (by simp) fun ρ w a hX => ?_
  refine wp_seq (wp_region ?_)
  refine sx_new _ _ (fun b => .ptr b 0) _ rfl rfl rfl (by decide) hX (hop_box rfl rfl) fun b ρ H1 a w hX => ?_
  refine sx_q _ _ _ rfl rfl rfl (by decide) hX rfl rfl fun a hX => ?_
  refine wp_seq (wp_region ?_)
  refine sx_q _ _ _ rfl rfl rfl (by decide) hX rfl (hop_field' fz_25_2 rfl) fun a hX => ?_
  refine sx_q _ _ Ve rfl rfl rfl (by decide) hX rfl (hop_load ty_23 rfl (hX.ld 0 rfl rfl)) fun a hX => ?_
  refine sx_q _ _ (.int .i64 (m.cells.length : Int)) rfl rfl rfl (by decide) hX rfl (hop_lenCells h2 rfl) fun a hX => ?_
  have hcl := hm.2.2
  have e3 : IntKind.i64.wrap (262144 - (m.cells.length : Int)) = 262144 - (m.cells.length : Int) := by rw [wrap_i64]; unfold Img.wrapI; omega
  refine sx_q _ _ (.int .i64 (262144 - (m.cells.length : Int))) rfl rfl rfl (by decide) hX rfl (by rw [← e3]; exact hop_bin rfl rfl bin_sub) fun a hX => ?_
  refine sx_q _ _ _ rfl rfl rfl (by decide) hX rfl rfl fun a hX => ?_
  refine wp_seq (wp_seq (wp_region ?_))
  refine sx_q _ _ _ rfl rfl rfl (by decide) hX rfl rfl fun a hX => ?_
  refine wp_block (LoopWp.wp ?_)
  exact size_lp m hm Vc Ve h1 b m.code.length 0 (by omega) (262144 - (m.cells.length : Int)) (by omega) (by omega) (by rw [List.drop_zero]; rfl) ρ H1 _ w (hX.slots _ ⟨rfl, rfl, rfl, trivial⟩)
end Go.Vex
namespace Go.Vex
open Go.Proofs
set_option maxRecDepth 100000
variable {ρ ρ0 : Rho} {H H0 : Hp} {w w0 : World} {a : Act} {Q : Exit → Act → World → Prop} {Wr : Nat → Prop}
def SlInts (H : Hp) (V : AV) (l : List Int) : Prop := ∃ b off c cs, V = .slice b off l.length c ∧ b < H.next ∧ Rds (H.fn b) cs ∧ ∀ (i : Nat) (x : Int), l[i]? = some x → cs[off + i * 1]? = some (.int .i64 x)
theorem SlInts.mono {H H' : Hp} {V : AV} {l : List Int} (hs : Stays H H') (h : SlInts H V l) (hn : H.next ≤ H'.next) : SlInts H' V l := by
  obtain ⟨b, off, c, cs, e, hlt, hc, hr⟩ := h
  exact ⟨b, off, c, cs, e, by omega, by rw [hs b hlt]; exact hc, hr⟩
def beyV : Int → List Int → Bool
  | _, [] => false
  | n, x :: l => if x < 0 ∨ 262144 < x then true else if 262144 < n + x then true else beyV (n + x) l
noncomputable abbrev c5 : Code := codeOf Tryz.f5
noncomputable abbrev b5 : Code := seqR (seqR c5)
noncomputable abbrev l5 : Code := loopB (blkB (seqR (seqL b5)))
noncomputable abbrev k5 : Code := blkB (seqL (seqR l5))
theorem hop_lenI {H H' : Hp} {V : AV} {l : List Int} {e : Env} {x : Operand} (hV : SlInts H V l) (hx : e x = some V) : opA Tryz.prog (.call ⟨.builtin .len, ⟨[x]⟩, ⟨[44]⟩⟩) e H' = some (.val (.int .i64 (l.length : Int)) H') := by
  obtain ⟨bl, ol, cl, cs, rfl, _⟩ := hV
  exact hop_len Tryz.underlying44 hx
noncomputable abbrev Q5 (r : Bool) (ρ0 : Rho) (H0 : Hp) (w0 : World) : Exit → Act → World → Prop := Exit.inBlock 0 (Exit.then ((seqR b5).wp Tryz.prog (bodyPostD Tryz.prog Tryz.f5 (Post ρ0 H0 w0 (Pure (.bool r) H0)))) (bodyPostD Tryz.prog Tryz.f5 (Post ρ0 H0 w0 (Pure (.bool r) H0))))
theorem bey_lp (l : List Int) (hl : l.length ≤ 2305843009213693952) (V : AV) (hV : SlInts H0 V l) (r : Bool) : ∀ (k i : Nat), i + k = l.length → ∀ (n : Int), 0 ≤ n → n ≤ 262144 → r = beyV n (l.drop i) → ∀ (ρ : Rho) (H : Hp) (a : Act) (w : World), Sx Tryz.prog ρ0 H0 w0 31 No [] (listF [(0, V), (3, .int .i64 n), (4, .int .i64 (i : Int))]) ρ H a w → LoopWp Tryz.prog l5 (Q5 r ρ0 H0 w0) a w := by
  intro k
  induction k with
  | zero =>
    intro i hi n hn1 hn2 hs ρ H a w hX
    have hlt : ¬ ((i : Int) < (l.length : Int)) := by omega
    refine LoopWp.unroll (wp_seq (wp_seq (wp_region ?_)))
    refine sx_q _ _ _ rfl rfl rfl (by decide) hX rfl rfl fun a hX => ?_
    refine sx_q _ _ _ rfl rfl rfl (by decide) hX rfl rfl fun a hX => ?_
    refine sx_q _ _ (.int .i64 (l.length : Int)) rfl rfl rfl (by decide) hX rfl (hop_lenI hV rfl) fun a hX => ?_
    refine sx_q _ _ (.bool false) rfl rfl rfl (by decide) hX rfl (hop_bin rfl rfl (bin_lss (decide_eq_false hlt))) fun a hX => ?_
    refine sx_false hX rfl (wp_exit ?_)
    refine then_exit (then_exit (inBlock_hit ?_))
    rw [List.drop_eq_nil_iff.2 (by omega)] at hs
    subst hs
    show ((seqR b5).wp Tryz.prog _ _ _)
    refine wp_seq (wp_region ?_)
    refine sx_q _ _ (.bool false) rfl rfl rfl (by decide) hX rfl rfl fun a hX => ?_
    exact sx_ret1 2 _ hX rfl rfl (hX.pure _) id
  | succ k ih =>
    intro i hi n hn1 hn2 hs ρ H a w hX
    have hlt : ((i : Int) < (l.length : Int)) := by omega
    have hi2 : i < l.length := by omega
    obtain ⟨x, hx⟩ : ∃ x, l[i]? = some x := ⟨_, List.getElem?_eq_getElem hi2⟩
    have hd : l.drop i = x :: l.drop (i + 1) := by rw [List.drop_eq_getElem?_toList_append, hx]; rfl
    rw [hd] at hs
    have hV2 := hV
    obtain ⟨bl, ol, cl, cs, rfl, hltb, hc, hrow⟩ := hV2
    have hv := hrow i x hx
    have hc := hX.old hc hltb (fun h => h)
    refine LoopWp.unroll (wp_seq (wp_seq (wp_region ?_)))
    refine sx_q _ _ _ rfl rfl rfl (by decide) hX rfl rfl fun a hX => ?_
    refine sx_q _ _ _ rfl rfl rfl (by decide) hX rfl rfl fun a hX => ?_
    refine sx_q _ _ (.int .i64 (l.length : Int)) rfl rfl rfl (by decide) hX rfl (hop_lenI hV rfl) fun a hX => ?_
    refine sx_q _ _ (.bool true) rfl rfl rfl (by decide) hX rfl (hop_bin rfl rfl (bin_lss (decide_eq_true hlt))) fun a hX => ?_
    refine sx_true hX rfl (wp_skip ?_)
    have yes : ∀ (c : Code), (c = condT (seqR (seqL k5)) ∨ c = condT (seqR (seqR (seqR k5)))) → ∀ {K : Act → World → Prop} {F : SlF} {ρ H a w}, r = true → Sx Tryz.prog ρ0 H0 w0 31 No [] F ρ H a w → c.wp Tryz.prog (Exit.then K (Exit.inBlock 1 (Exit.then (fun a w => (seqR (seqR l5)).wp Tryz.prog (Exit.then (fun a w => LoopWp Tryz.prog l5 (Q5 r ρ0 H0 w0) a w) (Q5 r ρ0 H0 w0)) a w) (Exit.then (fun a w => LoopWp Tryz.prog l5 (Q5 r ρ0 H0 w0) a w) (Q5 r ρ0 H0 w0))))) a w := by
      intro c hc K F ρ H a w hr hX
      subst hr
      rcases hc with rfl | rfl
      · refine wp_seq (wp_region ?_)
        refine sx_q _ _ (.bool true) rfl rfl rfl (by decide) hX rfl rfl fun a hX => ?_
        exact sx_ret1 2 _ hX rfl rfl (hX.pure _) id
      · refine wp_seq (wp_region ?_)
        refine sx_q _ _ (.bool true) rfl rfl rfl (by decide) hX rfl rfl fun a hX => ?_
        exact sx_ret1 2 _ hX rfl rfl (hX.pure _) id
    refine wp_seq (wp_block (wp_seq (wp_seq (wp_region ?_))))
    refine sx_q _ _ _ rfl rfl rfl (by decide) hX rfl rfl fun a hX => ?_
    refine sx_q _ _ _ rfl rfl rfl (by decide) hX rfl rfl fun a hX => ?_
    refine sx_q _ _ (.ptr bl (ol + i * 1)) rfl rfl rfl (by decide) hX rfl (hop_index ix_44 rfl rfl hi2) fun a hX => ?_
    refine sx_q _ _ (.int .i64 x) rfl rfl rfl (by decide) hX rfl (hop_load ty_3 rfl (hc.load1 hv)) fun a hX => ?_
    by_cases h1 : x < 0
    · refine sx_q _ _ (.bool true) rfl rfl rfl (by decide) hX rfl (hop_bin rfl rfl (bin_lss (decide_eq_true h1))) fun a hX => ?_
      refine sx_q _ _ (.bool true) rfl rfl rfl (by decide) hX rfl rfl fun a hX => ?_
      refine sx_gf _ _ rfl rfl rfl (by decide) hX rfl fun a hX => ?_
      refine sx_gf _ _ rfl rfl rfl (by decide) hX rfl fun a hX => ?_
      refine sx_gf _ _ rfl rfl rfl (by decide) hX rfl fun a hX => ?_
      refine sx_gf _ _ rfl rfl rfl (by decide) hX rfl fun a hX => ?_
      refine sx_gf _ _ rfl rfl rfl (by decide) hX rfl fun a hX => ?_
      refine sx_q _ _ (.bool true) rfl rfl rfl (by decide) hX rfl rfl fun a hX => ?_
      have hr : r = true := by rw [hs]; unfold beyV; rw [if_pos (.inl h1)]
      exact sx_true hX rfl (yes _ (.inl rfl) hr hX)
    · refine sx_q _ _ (.bool false) rfl rfl rfl (by decide) hX rfl (hop_bin rfl rfl (bin_lss (decide_eq_false h1))) fun a hX => ?_
      refine sx_q _ _ (.bool false) rfl rfl rfl (by decide) hX rfl rfl fun a hX => ?_
      refine sx_gt _ _ _ rfl rfl rfl (by decide) hX rfl rfl fun a hX => ?_
      refine sx_gt _ _ _ rfl rfl rfl (by decide) hX rfl rfl fun a hX => ?_
      refine sx_gt _ _ (.ptr bl (ol + i * 1)) rfl rfl rfl (by decide) hX rfl (hop_index ix_44 rfl rfl hi2) fun a hX => ?_
      refine sx_gt _ _ (.int .i64 x) rfl rfl rfl (by decide) hX rfl (hop_load ty_3 rfl (hc.load1 hv)) fun a hX => ?_
      by_cases h2 : 262144 < x
      · refine sx_gt _ _ (.bool true) rfl rfl rfl (by decide) hX rfl (hop_bin rfl rfl (bin_gtr (decide_eq_true h2))) fun a hX => ?_
        refine sx_q _ _ (.bool true) rfl rfl rfl (by decide) hX rfl rfl fun a hX => ?_
        have hr : r = true := by rw [hs]; unfold beyV; rw [if_pos (.inr h2)]
        exact sx_true hX rfl (yes _ (.inl rfl) hr hX)
      · refine sx_gt _ _ (.bool false) rfl rfl rfl (by decide) hX rfl (hop_bin rfl rfl (bin_gtr (decide_eq_false h2))) fun a hX => ?_
        refine sx_q _ _ (.bool false) rfl rfl rfl (by decide) hX rfl rfl fun a hX => ?_
        refine sx_false hX rfl (wp_skip ?_)
        refine wp_seq (wp_region ?_)
        refine sx_q _ _ _ rfl rfl rfl (by decide) hX rfl rfl fun a hX => ?_
        refine sx_q _ _ _ rfl rfl rfl (by decide) hX rfl rfl fun a hX => ?_
        refine sx_q _ _ _ rfl rfl rfl (by decide) hX rfl rfl fun a hX => ?_
        refine sx_q _ _ (.ptr bl (ol + i * 1)) rfl rfl rfl (by decide) hX rfl (hop_index ix_44 rfl rfl hi2) fun a hX => ?_
        refine sx_q _ _ (.int .i64 x) rfl rfl rfl (by decide) hX rfl (hop_load ty_3 rfl (hc.load1 hv)) fun a hX => ?_
        have e3 : IntKind.i64.wrap (n + x) = n + x := by rw [wrap_i64]; unfold Img.wrapI; omega
        refine sx_q _ _ (.int .i64 (n + x)) rfl rfl rfl (by decide) hX rfl (by rw [← e3]; exact hop_bin rfl rfl bin_add) fun a hX => ?_
        refine sx_q _ _ _ rfl rfl rfl (by decide) hX rfl rfl fun a hX => ?_
        refine wp_seq (wp_region ?_)
        refine sx_q _ _ _ rfl rfl rfl (by decide) hX rfl rfl fun a hX => ?_
        by_cases h3 : 262144 < n + x
        · refine sx_q _ _ (.bool true) rfl rfl rfl (by decide) hX rfl (hop_bin rfl rfl (bin_gtr (decide_eq_true h3))) fun a hX => ?_
          have hr : r = true := by rw [hs]; unfold beyV; rw [if_neg (by omega), if_pos h3]
          subst hr
          refine sx_true hX rfl ?_
          refine wp_seq (wp_region ?_)
          refine sx_q _ _ (.bool true) rfl rfl rfl (by decide) hX rfl rfl fun a hX => ?_
          exact sx_ret1 2 _ hX rfl rfl (hX.pure _) id
        · refine sx_q _ _ (.bool false) rfl rfl rfl (by decide) hX rfl (hop_bin rfl rfl (bin_gtr (decide_eq_false h3))) fun a hX => ?_
          refine sx_false hX rfl (wp_skip ?_)
          have hs : r = beyV (n + x) (l.drop (i + 1)) := by rw [hs]; conv => lhs; unfold beyV
                                                            rw [if_neg (by omega), if_neg h3]
          show ((seqR (seqR l5)).wp _ _ _ _)
          refine wp_region ?_
          refine sx_q _ _ _ rfl rfl rfl (by decide) hX rfl rfl fun a hX => ?_
          have e2 : IntKind.i64.wrap ((i : Int) + Int.ofNat 1) = ((i + 1 : Nat) : Int) := by rw [wrap_i64]; unfold Img.wrapI; show ((i : Int) + 1 + _) % _ - _ = _; omega
          refine sx_q _ _ (.int .i64 ((i + 1 : Nat) : Int)) rfl rfl rfl (by decide) hX rfl (by rw [← e2]; exact hop_bin rfl rfl bin_add) fun a hX => ?_
          refine sx_q _ _ _ rfl rfl rfl (by decide) hX rfl rfl fun a hX => ?_
          exact ih (i + 1) (by omega) (n + x) (by omega) (by omega) hs ρ H _ w (hX.slots _ ⟨rfl, rfl, rfl, trivial⟩)
theorem bey_spec (l : List Int) (hl : l.length ≤ 2305843009213693952) (V : AV) (hV : SlInts H V l) : Spec Tryz.prog 5 [V] H (Pure (.bool (beyV 0 l)) H) := by
  refine spec_body0 31 Tryz.func5 rfl Tryz.ntmps5 (by simp) fun ρ w a hX => ?_
  refine wp_seq (wp_region ?_)
  refine sx_q _ _ _ rfl rfl rfl (by decide) hX rfl rfl fun a hX => ?_
  refine wp_seq (wp_region ?_)
  refine sx_q _ _ _ rfl rfl rfl (by decide) hX rfl rfl fun a hX => ?_
  refine wp_seq (wp_seq (wp_region ?_))
  refine sx_q _ _ _ rfl rfl rfl (by decide) hX rfl rfl fun a hX => ?_
  refine wp_block (LoopWp.wp ?_)
  exact bey_lp l hl V hV (beyV 0 l) l.length 0 (by omega) 0 (by decide) (by decide) (by rw [List.drop_zero]) ρ H _ w (hX.slots _ ⟨rfl, rfl, rfl, trivial⟩)
end Go.Vex
