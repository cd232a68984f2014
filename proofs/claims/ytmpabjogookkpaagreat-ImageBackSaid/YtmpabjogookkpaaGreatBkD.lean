/-
  The check of an image; numbers and texts as bytes.
  No condition.
-/
import Derived.Test.YtmpabjogookkpaaGreatBkC
import Derived.Test.YtmpabjogookkpaaGreatVxJ
set_option linter.unusedVariables false
namespace Go.Vex
open Go.Proofs
set_option maxRecDepth 100000
theorem hop_callv {P : Program} {F : SlF} {H : Hp} {g : FuncId} {t : Tmp} {args : Array Operand} {ats : Array TypeId} {l : List AV} (hen : enterOK P g = true) (hf : F t = some (.func g [] [])) (hl : opds (envF F) args.toList = some l) : opA P (.call ⟨.value (.tmp t), args, ats⟩) (envF F) H = some (.call g l) := by
  show ob (opds (envF F) args.toList) _ = _
  rw [hl]
  show ob (F t) _ = _
  rw [hf]
  show iteB (enterOK P g) (ob (app l []) fun r => ob (app [] r) fun r => some (OR.call g r)) none = _
  rw [hen, iteB_true, app_ok l [], List.append_nil]
  show ob (app [] l) _ = _
  rw [app_ok [] l]; rfl
theorem en_31 : enterOK Tryz.prog 31 = true := by kernel_rfl
theorem en_61 : enterOK Tryz.prog 61 = true := by kernel_rfl
theorem en_30 : enterOK Tryz.prog 30 = true := by kernel_rfl
abbrev F31 : AV := .func 31 [] []
noncomputable abbrev c31 : Code := codeOf Tryz.f31
noncomputable abbrev c61 : Code := codeOf Tryz.f61
noncomputable abbrev c30 : Code := codeOf Tryz.f30
variable {ρ ρ0 : Rho} {H H0 : Hp} {w w0 : World} {a : Act} {Q : Exit → Act → World → Prop}
/-- May an operation not be? -/
theorem bad_spec (o : Img.Op) (hw : Wf o) (H : Hp) : Spec Tryz.prog 31 [opAV o] H (Pure (.bool (!Img.okB o)) H) := by
  refine spec_body0 6 Tryz.func31 rfl Tryz.ntmps31 (by simp) fun ρ w a hX => ?_
  refine wp_seq (wp_region ?_)
  refine sx_new _ _ (fun b => .ptr b 0) _ rfl rfl rfl (by decide) hX (hop_box rfl rfl) fun b ρ H a w hX => ?_
  refine sx_q _ _ _ rfl rfl rfl (by decide) hX rfl rfl fun a hX => ?_
  refine wp_seq (wp_region ?_)
  refine sx_q _ _ (opAV o) rfl rfl rfl (by decide) hX rfl (hop_loadN ty_98 rfl (hX.ldN 0 rfl (by simp [cellsOp]) rfl)) fun a hX => ?_
  refine sx_pure _ _ 32 [opAV o] (chkAV (Img.okB o)) rfl rfl rfl (by decide) hX (hop_callf en_32 rfl) (chk_spec o hw _) fun ρ H a w hX => ?_
  refine sx_q _ _ (.bool (!Img.okB o)) rfl rfl rfl (by decide) hX rfl (by cases Img.okB o <;> rfl) fun a hX => ?_
  refine sx_q _ _ _ rfl rfl rfl (by decide) hX rfl rfl fun a hX => ?_
  refine sx_ret1 2 _ hX rfl rfl ?_ id
  exact hX.pure _
def badIx (l : List Img.Op) (i : Nat) : Int := match (l.drop i).findIdx? (fun o => !Img.okB o) with | some j => ((i + j : Nat) : Int) | none => -1
noncomputable abbrev lp61 : Code := loopB (blkB (seqR (seqL (seqR c61))))
noncomputable abbrev P61 (l : List Img.Op) (ρ0 : Rho) (H0 : Hp) (w0 : World) := bodyPostD Tryz.prog Tryz.f61 (Post ρ0 H0 w0 (Pure (.int .i64 (badIx l 0)) H0))
noncomputable abbrev Q61 (l : List Img.Op) (ρ0 : Rho) (H0 : Hp) (w0 : World) : Exit → Act → World → Prop := Exit.inBlock 0 (Exit.then ((seqR (seqR c61)).wp Tryz.prog (P61 l ρ0 H0 w0)) (P61 l ρ0 H0 w0))
theorem ixf_lp (l : List Img.Op) (hl : l.length ≤ 2305843009213693952) (hw : ∀ o ∈ l, Wf o) (V : AV) (hV : SlOps H0 V l) : ∀ (k i : Nat), i + k = l.length → badIx l 0 = badIx l i → ∀ (ρ : Rho) (H : Hp) (a : Act) (w : World),
    Sx Tryz.prog ρ0 H0 w0 19 No [] (listF [(0, V), (1, F31), (7, .int .i64 (l.length : Int)), (8, .int .i64 (i : Int))]) ρ H a w → LoopWp Tryz.prog lp61 (Q61 l ρ0 H0 w0) a w := by
  intro k
  induction k with
  | zero =>
    intro i hi hb ρ H a w hX
    have hlt : ¬ ((i : Int) < (l.length : Int)) := by omega
    refine LoopWp.unroll (wp_seq (wp_region ?_))
    refine sx_q _ _ _ rfl rfl rfl (by decide) hX rfl (by first | exact hop_bin rfl rfl (bin_lss (by first | exact decide_eq_true (by assumption) | exact decide_eq_false (by assumption))) | rfl) fun a hX => ?_
    refine wp_seq (sx_false hX rfl (wp_exit ?_))
    refine then_exit (then_exit (inBlock_hit ?_))
    show ((seqR (seqR c61)).wp _ _ _ _)
    refine wp_seq (wp_region ?_)
    refine sx_q _ _ _ rfl rfl rfl (by decide) hX rfl rfl fun a hX => ?_
    have e : badIx l 0 = -1 := by rw [hb]; unfold badIx; rw [List.drop_eq_nil_iff.2 (by omega)]; rfl
    refine sx_ret1 4 _ hX rfl rfl ?_ id
    rw [e]; exact hX.pure _
  | succ k ih =>
    intro i hi hb ρ H a w hX
    have hlt : (i : Int) < (l.length : Int) := by omega
    have hi2 : i < l.length := by omega
    obtain ⟨o, ho⟩ : ∃ o, l[i]? = some o := ⟨_, List.getElem?_eq_getElem hi2⟩
    have hwo := hw o (List.mem_of_getElem? ho)
    have hd : l.drop i = o :: l.drop (i + 1) := by rw [List.drop_eq_getElem?_toList_append, ho]; rfl
    rcases hV with ⟨_, rfl⟩ | ⟨bl, ol, cl, cs, rfl, hltb, hc, hrow⟩
    · simp at hi2
    obtain ⟨hr1, hr2⟩ := hrow i o ho
    refine LoopWp.unroll (wp_seq (wp_region ?_))
    refine sx_q _ _ _ rfl rfl rfl (by decide) hX rfl (by first | exact hop_bin rfl rfl (bin_lss (by first | exact decide_eq_true (by assumption) | exact decide_eq_false (by assumption))) | rfl) fun a hX => ?_
    refine wp_seq (sx_true hX rfl (wp_skip ?_))
    refine wp_seq (wp_block (wp_seq (wp_region ?_)))
    refine sx_q _ _ _ rfl rfl rfl (by decide) hX rfl rfl fun a hX => ?_
    refine sx_q _ _ _ rfl rfl rfl (by decide) hX rfl rfl fun a hX => ?_
    refine wp_seq (wp_region ?_)
    refine sx_q _ _ _ rfl rfl rfl (by decide) hX rfl rfl fun a hX => ?_
    refine sx_q _ _ _ rfl rfl rfl (by decide) hX rfl rfl fun a hX => ?_
    refine sx_q _ _ _ rfl rfl rfl (by decide) hX rfl rfl fun a hX => ?_
    refine sx_q _ _ (.ptr bl (ol + i * 6)) rfl rfl rfl (by decide) hX rfl (hop_index ix_45 rfl rfl hi2) fun a hX => ?_
    refine sx_q _ _ (opAV o) rfl rfl rfl (by decide) hX rfl (hop_loadN ty_98 rfl ((hX.old hc hltb (fun h => h)).loadN hr1 hr2)) fun a hX => ?_
    refine sx_pure _ _ 31 [opAV o] (.bool (!Img.okB o)) rfl rfl rfl (by decide) hX (hop_callv en_31 rfl rfl) (bad_spec o hwo _) fun ρ H a w hX => ?_
    rcases bcases (Img.okB o) with hok | hok
    · rw [hok] at hX
      have hb2 : badIx l 0 = badIx l (i + 1) := by
        rw [hb]; unfold badIx; rw [hd, List.findIdx?_cons, hok]
        simp only [Bool.not_true]
        cases (l.drop (i + 1)).findIdx? (fun o => !Img.okB o) with
        | none => rfl
        | some j => show ((i + (j + 1) : Nat) : Int) = ((i + 1 + j : Nat) : Int); congr 1; omega
      refine sx_false hX rfl (wp_skip ?_)
      show ((seqR (seqR (seqR lp61))).wp _ _ _ _)
      refine wp_region ?_
      have e2 : IntKind.i64.wrap ((i : Int) + Int.ofNat 1) = ((i + 1 : Nat) : Int) := by rw [wrap_i64]; unfold Img.wrapI; show ((i : Int) + 1 + _) % _ - _ = _; omega
      refine sx_q _ _ (.int .i64 ((i + 1 : Nat) : Int)) rfl rfl rfl (by decide) hX rfl (by rw [← e2]; exact hop_bin rfl rfl bin_add) fun a hX => ?_
      refine sx_q _ _ _ rfl rfl rfl (by decide) hX rfl rfl fun a hX => ?_
      exact ih (i + 1) (by omega) hb2 ρ H _ w (hX.slots _ ⟨rfl, rfl, rfl, rfl, trivial⟩)
    · rw [hok] at hX
      refine sx_true hX rfl (wp_seq (wp_region ?_))
      refine sx_q _ _ _ rfl rfl rfl (by decide) hX rfl rfl fun a hX => ?_
      refine sx_q _ _ _ rfl rfl rfl (by decide) hX rfl rfl fun a hX => ?_
      have e : badIx l 0 = (i : Int) := by rw [hb]; unfold badIx; rw [hd, List.findIdx?_cons, hok]; rfl
      refine sx_ret1 4 _ hX rfl rfl ?_ id
      rw [e]; exact hX.pure _
theorem hop_lenS {H H' : Hp} {V : AV} {l : List Img.Op} {e : Env} {x : Operand} (hV : SlOps H V l) (hx : e x = some V) : opA Tryz.prog (.call ⟨.builtin .len, ⟨[x]⟩, ⟨[45]⟩⟩) e H' = some (.val (.int .i64 (l.length : Int)) H') := by
  rcases hV with ⟨hnl, rfl⟩ | ⟨bl, ol, cl, cs, rfl, _⟩
  · exact hop_len_nl hnl Tryz.underlying45 hx
  · exact hop_len Tryz.underlying45 hx
theorem ixf_spec (l : List Img.Op) (hl : l.length ≤ 2305843009213693952) (hw : ∀ o ∈ l, Wf o) (V : AV) (hV : SlOps H V l) : Spec Tryz.prog 61 [V, F31] H (Pure (.int .i64 (badIx l 0)) H) := by
  refine spec_body0 19 Tryz.func61 rfl Tryz.ntmps61 (by simp) fun ρ w a hX => ?_
  refine wp_seq (wp_region ?_)
  refine sx_q _ _ _ rfl rfl rfl (by decide) hX rfl rfl fun a hX => ?_
  refine wp_seq (wp_seq (wp_region ?_))
  refine sx_q _ _ _ rfl rfl rfl (by decide) hX rfl rfl fun a hX => ?_
  refine sx_q _ _ (.int .i64 (l.length : Int)) rfl rfl rfl (by decide) hX rfl (hop_lenS hV rfl) fun a hX => ?_
  refine sx_q _ _ _ rfl rfl rfl (by decide) hX rfl rfl fun a hX => ?_
  refine wp_block (LoopWp.wp ?_)
  exact ixf_lp l hl hw V hV l.length 0 (by omega) rfl ρ H _ w (hX.slots _ ⟨rfl, rfl, rfl, rfl, trivial⟩)
theorem badIx_any (l : List Img.Op) : decide (0 ≤ badIx l 0) = l.any (fun o => !Img.okB o) := by
  unfold badIx
  rw [List.drop_zero]
  cases h : l.findIdx? (fun o => !Img.okB o) with
  | none =>
    rw [List.findIdx?_eq_none_iff] at h
    have : l.any (fun o => !Img.okB o) = false := by rw [List.any_eq_false]; intro o ho; rw [h o ho]; simp
    rw [this]; rfl
  | some j =>
    have hs : (l.findIdx? (fun o => !Img.okB o)).isSome = true := by rw [h]; rfl
    rw [List.findIdx?_isSome] at hs
    rw [hs]; simp
theorem cf_spec (l : List Img.Op) (hl : l.length ≤ 2305843009213693952) (hw : ∀ o ∈ l, Wf o) (V : AV) (hV : SlOps H V l) : Spec Tryz.prog 30 [V, F31] H (Pure (.bool (l.any fun o => !Img.okB o)) H) := by
  refine spec_body0 9 Tryz.func30 rfl Tryz.ntmps30 (by simp) fun ρ w a hX => ?_
  refine wp_seq (wp_region ?_)
  refine sx_q _ _ _ rfl rfl rfl (by decide) hX rfl rfl fun a hX => ?_
  refine wp_seq (wp_region ?_)
  refine sx_q _ _ _ rfl rfl rfl (by decide) hX rfl rfl fun a hX => ?_
  refine sx_q _ _ _ rfl rfl rfl (by decide) hX rfl rfl fun a hX => ?_
  refine sx_pure _ _ 61 [V, F31] (.int .i64 (badIx l 0)) rfl rfl rfl (by decide) hX (hop_callf en_61 rfl) (ixf_spec l hl hw V hV) fun ρ H a w hX => ?_
  refine sx_q _ _ (.bool (l.any fun o => !Img.okB o)) rfl rfl rfl (by decide) hX rfl (by rw [← badIx_any]; exact hop_bin rfl rfl (bin_geq rfl)) fun a hX => ?_
  refine sx_q _ _ _ rfl rfl rfl (by decide) hX rfl rfl fun a hX => ?_
  refine sx_ret1 4 _ hX rfl rfl ?_ id
  exact hX.pure _
end Go.Vex
namespace Go.Img
structure Im where
  code : List (List Op)
  mem : Int
  cells : List (Int × Int)
def minS (l : List Op) : Int := if (262145 : Int) < (l.length : Int) then 262145 else (l.length : Int)
def sumS (c : List (List Op)) : Int := (c.map minS).sum
def cellB (mem : Int) : Int → List (Int × Int) → Bool
  | _, [] => true
  | last, p :: l => if p.1 ≤ last then false else if mem ≤ p.1 then false else cellB mem p.1 l
def limB (m : Im) : Bool := decide (262144 < m.mem) || (decide (4 < (m.code.length : Int)) || decide (262144 < sumS m.code))
def badB (m : Im) : Bool := m.code.any fun l => l.any fun o => !okB o
def tchk (m : Im) : Int := if limB m then 3 else if m.mem < 1 then 1 else if badB m then 1 else if cellB m.mem (-1) m.cells then 0 else 1
def WfI (m : Im) : Prop := (∀ l ∈ m.code, (∀ o ∈ l, Wb o) ∧ l.length ≤ 2305843009213693952) ∧ m.code.length ≤ 1048576 ∧ m.cells.length ≤ 2305843009213693952
end Go.Img
namespace Go.Vex
open Go.Proofs
set_option maxRecDepth 100000
theorem SlOps.mono {H H' : Hp} {V : AV} {l : List Img.Op} (hs : Stays H H') (hn : H.next ≤ H'.next) (h : SlOps H V l) : SlOps H' V l := by
  rcases h with h | ⟨b, off, c, cs, e, hlt, hc, hr⟩
  · exact .inl h
  · exact .inr ⟨b, off, c, cs, e, by omega, by rw [hs b hlt]; exact hc, hr⟩
def SlRows (H : Hp) (V : AV) (code : List (List Img.Op)) : Prop := (Nl V ∧ code = []) ∨ ∃ b off c cs, V = .slice b off code.length c ∧ b < H.next ∧ Rds (H.fn b) cs ∧ ∀ (i : Nat) (l : List Img.Op), code[i]? = some l → ∃ Vl, cs[off + i * 1]? = some Vl ∧ SlOps H Vl l
def RowCells (cs : List AV) (off : Nat) (l : List (Int × Int)) : Prop := ∀ (i : Nat) (p : Int × Int), l[i]? = some p → off + i * 2 + 2 ≤ cs.length ∧ (cs.drop (off + i * 2)).take 2 = [.int .i64 p.1, .int .i64 p.2]
def SlCells (H : Hp) (V : AV) (l : List (Int × Int)) : Prop := (Nl V ∧ l = []) ∨ ∃ b off c cs, V = .slice b off l.length c ∧ b < H.next ∧ Rds (H.fn b) cs ∧ RowCells cs off l
theorem SlRows.mono {H H' : Hp} {V : AV} {l : List (List Img.Op)} (hs : Stays H H') (hn : H.next ≤ H'.next) (h : SlRows H V l) : SlRows H' V l := by
  rcases h with h | ⟨b, off, c, cs, e, hlt, hc, hr⟩
  · exact .inl h
  · exact .inr ⟨b, off, c, cs, e, by omega, by rw [hs b hlt]; exact hc, fun i l hl => let ⟨Vl, h1, h2⟩ := hr i l hl; ⟨Vl, h1, h2.mono hs hn⟩⟩
theorem SlCells.mono {H H' : Hp} {V : AV} {l : List (Int × Int)} (hs : Stays H H') (hn : H.next ≤ H'.next) (h : SlCells H V l) : SlCells H' V l := by
  rcases h with h | ⟨b, off, c, cs, e, hlt, hc, hr⟩
  · exact .inl h
  · exact .inr ⟨b, off, c, cs, e, by omega, by rw [hs b hlt]; exact hc, hr⟩
/-- An image's cells. -/
def cellsIm (Vc Ve : AV) (m : Img.Im) : List AV := [Vc, .int .i64 m.mem, Ve]
theorem hop_lenRows {H H' : Hp} {V : AV} {l : List (List Img.Op)} {e : Env} {x : Operand} (hV : SlRows H V l) (hx : e x = some V) : opA Tryz.prog (.call ⟨.builtin .len, ⟨[x]⟩, ⟨[22]⟩⟩) e H' = some (.val (.int .i64 (.ofNat l.length)) H') := by
  rcases hV with ⟨hnl, rfl⟩ | ⟨bl, ol, cl, cs, rfl, _⟩
  · exact hop_len_nl hnl Tryz.underlying22 hx
  · exact hop_len Tryz.underlying22 hx
theorem hop_lenCells {H H' : Hp} {V : AV} {l : List (Int × Int)} {e : Env} {x : Operand} (hV : SlCells H V l) (hx : e x = some V) : opA Tryz.prog (.call ⟨.builtin .len, ⟨[x]⟩, ⟨[23]⟩⟩) e H' = some (.val (.int .i64 (.ofNat l.length)) H') := by
  rcases hV with ⟨hnl, rfl⟩ | ⟨bl, ol, cl, cs, rfl, _⟩
  · exact hop_len_nl hnl Tryz.underlying23 hx
  · exact hop_len Tryz.underlying23 hx
theorem hop_min {P : Program} {e : Env} {H : Hp} {x y : Operand} {ats : Array TypeId} {k k' : IntKind} {a b : Int} (hx : e x = some (.int k a)) (hy : e y = some (.int k' b)) : opA P (.call ⟨.builtin .min, ⟨[x, y]⟩, ats⟩) e H = some (.val (.int k (if b < a then b else a)) H) := by
  show ob (ob (e x) fun y' => ob (ob (e y) fun z => ob (some []) fun r => some (z :: r)) fun r => some (y' :: r)) _ = _
  rw [hx, hy]
  show iteB (intLt b a) (valH H (.int k b)) (valH H (.int k a)) = _
  rw [intLt_dec]
  by_cases h : b < a
  · rw [if_pos h, decide_eq_true h, iteB_true]; rfl
  · rw [if_neg h, decide_eq_false h, iteB_false]; rfl
theorem zc_52 : zeroCells Tryz.prog 52 = some [.int .i64 0, .int .i64 0] := by kernel_rfl
noncomputable abbrev c13 : Code := codeOf Tryz.f13
noncomputable abbrev t13a : Code := seqR c13
noncomputable abbrev lpA : Code := loopB (blkB (seqR (seqL (seqR t13a))))
noncomputable abbrev t13b : Code := seqR (seqR t13a)
noncomputable abbrev t13c : Code := seqR t13b
noncomputable abbrev lpB : Code := loopB (blkB (seqR (seqL t13c)))
noncomputable abbrev t13d : Code := seqR t13c
noncomputable abbrev lpC : Code := loopB (blkB (seqR (seqL (seqR t13d))))
noncomputable abbrev t13e : Code := seqR (seqR t13d)
variable {ρ ρ0 : Rho} {H H0 : Hp} {w w0 : World} {a : Act} {Q : Exit → Act → World → Prop}
abbrev S13 (b : Nat) : List (Nat × AV) := [(1, .ptr b 0)]
/-- The rows' lengths are counted. -/
theorem tso_lpA (m : Img.Im) (Vc Ve : AV) (hm : Img.WfI m) (hV : SlRows H0 Vc m.code) (b : Nat) : ∀ (k i : Nat), i + k = m.code.length → ∀ (c : Int), 0 ≤ c → c ≤ 262145 * i → c + Img.sumS (m.code.drop i) = Img.sumS m.code → ∀ (ρ : Rho) (H : Hp) (a : Act) (w : World),
    Sx Tryz.prog ρ0 H0 w0 73 No [(b, cellsIm Vc Ve m)] (listF ((3, .int .i64 c) :: (12, Vc) :: (13, .int .i64 (m.code.length : Int)) :: (14, .int .i64 (i : Int)) :: S13 b)) ρ H a w →
    (∀ ρ H a w, Sx Tryz.prog ρ0 H0 w0 73 No [(b, cellsIm Vc Ve m)] (listF ((3, .int .i64 (Img.sumS m.code)) :: S13 b)) ρ H a w → Q .normal a w) → LoopWp Tryz.prog lpA (Exit.inBlock 0 Q) a w := by
  intro k
  induction k with
  | zero =>
    intro i hi c hc0 hc1 hcs ρ H a w hX K
    have hlt : ¬ ((i : Int) < (m.code.length : Int)) := by omega
    refine LoopWp.unroll (wp_seq (wp_region ?_))
    refine sx_q _ _ _ rfl rfl rfl (by decide) hX rfl (by first | exact hop_bin rfl rfl (bin_lss (by first | exact decide_eq_true (by assumption) | exact decide_eq_false (by assumption))) | rfl) fun a hX => ?_
    refine wp_seq (sx_false hX rfl (wp_exit ?_))
    refine then_exit (then_exit (inBlock_hit ?_))
    have e : c = Img.sumS m.code := by
      rw [List.drop_eq_nil_iff.2 (by omega)] at hcs
      have : Img.sumS ([] : List (List Img.Op)) = 0 := rfl
      omega
    rw [e] at hX
    exact K ρ H _ w (hX.slots _ ⟨rfl, rfl, trivial⟩)
  | succ k ih =>
    intro i hi c hc0 hc1 hcs ρ H a w hX K
    have hlt : (i : Int) < (m.code.length : Int) := by omega
    have hi2 : i < m.code.length := by omega
    obtain ⟨l, hl⟩ : ∃ l, m.code[i]? = some l := ⟨_, List.getElem?_eq_getElem hi2⟩
    have hd : m.code.drop i = l :: m.code.drop (i + 1) := by rw [List.drop_eq_getElem?_toList_append, hl]; rfl
    have hcl := hm.2.1
    rcases hV with ⟨_, hn⟩ | ⟨bl, ol, cl, cs, rfl, hltb, hc, hrow⟩
    · rw [hn] at hi2; simp at hi2
    obtain ⟨Vl, hv, hVl⟩ := hrow i l hl
    refine LoopWp.unroll (wp_seq (wp_region ?_))
    refine sx_q _ _ _ rfl rfl rfl (by decide) hX rfl (by first | exact hop_bin rfl rfl (bin_lss (by first | exact decide_eq_true (by assumption) | exact decide_eq_false (by assumption))) | rfl) fun a hX => ?_
    refine wp_seq (sx_true hX rfl (wp_skip ?_))
    refine wp_seq (wp_block (wp_seq (wp_region ?_)))
    refine sx_q _ _ (.ptr bl (ol + i * 1)) rfl rfl rfl (by decide) hX rfl (hop_index ix_22 rfl rfl hi2) fun a hX => ?_
    refine sx_q _ _ Vl rfl rfl rfl (by decide) hX rfl (hop_load ty_45 rfl ((hX.old hc hltb (fun h => h)).load1 hv)) fun a hX => ?_
    refine sx_q _ _ _ rfl rfl rfl (by decide) hX rfl rfl fun a hX => ?_
    refine wp_region ?_
    refine sx_q _ _ _ rfl rfl rfl (by decide) hX rfl rfl fun a hX => ?_
    refine sx_q _ _ _ rfl rfl rfl (by decide) hX rfl rfl fun a hX => ?_
    refine sx_q _ _ (.int .i64 (l.length : Int)) rfl rfl rfl (by decide) hX rfl (hop_lenS hVl rfl) fun a hX => ?_
    refine sx_q _ _ (.int .i64 (Img.minS l)) rfl rfl rfl (by decide) hX rfl (hop_min rfl rfl) fun a hX => ?_
    have hmin : 0 ≤ Img.minS l ∧ Img.minS l ≤ 262145 := by unfold Img.minS; split <;> omega
    have e1 : IntKind.i64.wrap (c + Img.minS l) = c + Img.minS l := by rw [wrap_i64]; unfold Img.wrapI; omega
    refine sx_q _ _ (.int .i64 (c + Img.minS l)) rfl rfl rfl (by decide) hX rfl (by rw [← e1]; exact hop_bin rfl rfl bin_add) fun a hX => ?_
    refine sx_q _ _ _ rfl rfl rfl (by decide) hX rfl rfl fun a hX => ?_
    show ((seqR (seqR (seqR lpA))).wp _ _ _ _)
    refine wp_region ?_
    have e2 : IntKind.i64.wrap ((i : Int) + Int.ofNat 1) = ((i + 1 : Nat) : Int) := by rw [wrap_i64]; unfold Img.wrapI; show ((i : Int) + 1 + _) % _ - _ = _; omega
    refine sx_q _ _ (.int .i64 ((i + 1 : Nat) : Int)) rfl rfl rfl (by decide) hX rfl (by rw [← e2]; exact hop_bin rfl rfl bin_add) fun a hX => ?_
    refine sx_q _ _ _ rfl rfl rfl (by decide) hX rfl rfl fun a hX => ?_
    refine ih (i + 1) (by omega) (c + Img.minS l) (by omega) (by omega) ?_ ρ H _ w (hX.slots _ ⟨rfl, rfl, rfl, rfl, rfl, trivial⟩) K
    rw [hd] at hcs
    have : Img.sumS (l :: m.code.drop (i + 1)) = Img.minS l + Img.sumS (m.code.drop (i + 1)) := by unfold Img.sumS; simp
    omega
end Go.Vex
namespace Go.Vex
open Go.Proofs
set_option maxRecDepth 100000
variable {ρ ρ0 : Rho} {H H0 : Hp} {w w0 : World} {a : Act} {Q : Exit → Act → World → Prop}
noncomputable abbrev P13 (m : Img.Im) (ρ0 : Rho) (H0 : Hp) (w0 : World) := bodyPostD Tryz.prog Tryz.f13 (Post ρ0 H0 w0 (Pure (.int .i64 (Img.tchk m)) H0))
theorem ret13 (m : Img.Im) (V : AV) (hV : V = .int .i64 (Img.tchk m)) {cs : List (Nat × List AV)} {F : SlF} (hX : Sx Tryz.prog ρ0 H0 w0 73 No cs F ρ H a w) (hF : F 2 = some V) {Q : Exit → Act → World → Prop} (hQ : Leaves Tryz.prog Tryz.f13 a.tmps (Post ρ0 H0 w0 (Pure (.int .i64 (Img.tchk m)) H0)) a.defers .returning w → Q .ret a w) : Code.ret.wp Tryz.prog Q a w := by
  refine sx_ret1 2 V hX rfl hF ?_ hQ
  rw [hV]; exact hX.pure _
/-- The places of the cells. -/
theorem tso_lpC (m : Img.Im) (Vc Ve : AV) (hm : Img.WfI m) (hlim : Img.limB m = false) (hmem : ¬ m.mem < 1) (hbad : Img.badB m = false) (hV : SlCells H0 Ve m.cells) (b : Nat) : ∀ (k i : Nat), i + k = m.cells.length → ∀ (last : Int), Img.cellB m.mem (-1) m.cells = Img.cellB m.mem last (m.cells.drop i) → ∀ (ρ : Rho) (H : Hp) (a : Act) (w : World),
    Sx Tryz.prog ρ0 H0 w0 73 No [(b, cellsIm Vc Ve m)] (listF ((8, .int .i64 last) :: (53, Ve) :: (54, .int .i64 (m.cells.length : Int)) :: (55, .int .i64 (i : Int)) :: S13 b)) ρ H a w →
    LoopWp Tryz.prog lpC (Exit.inBlock 5 (Exit.then (t13e.wp Tryz.prog (P13 m ρ0 H0 w0)) (P13 m ρ0 H0 w0))) a w := by
  have hchk : Img.tchk m = if Img.cellB m.mem (-1) m.cells then 0 else 1 := by unfold Img.tchk; rw [hlim, hbad, if_neg hmem]; simp
  intro k
  induction k with
  | zero =>
    intro i hi last hcb ρ H a w hX
    have hlt : ¬ ((i : Int) < (m.cells.length : Int)) := by omega
    refine LoopWp.unroll (wp_seq (wp_region ?_))
    refine sx_q _ _ _ rfl rfl rfl (by decide) hX rfl (by first | exact hop_bin rfl rfl (bin_lss (by first | exact decide_eq_true (by assumption) | exact decide_eq_false (by assumption))) | rfl) fun a hX => ?_
    refine wp_seq (sx_false hX rfl (wp_exit ?_))
    refine then_exit (then_exit (inBlock_hit ?_))
    show t13e.wp _ _ _ _
    refine wp_seq (wp_region ?_)
    refine sx_q _ _ _ rfl rfl rfl (by decide) hX rfl rfl fun a hX => ?_
    refine ret13 m _ ?_ hX rfl id
    rw [hchk, hcb, List.drop_eq_nil_iff.2 (by omega)]; rfl
  | succ k ih =>
    intro i hi last hcb ρ H a w hX
    have hlt : (i : Int) < (m.cells.length : Int) := by omega
    have hi2 : i < m.cells.length := by omega
    obtain ⟨p, hp⟩ : ∃ p, m.cells[i]? = some p := ⟨_, List.getElem?_eq_getElem hi2⟩
    have hd : m.cells.drop i = p :: m.cells.drop (i + 1) := by rw [List.drop_eq_getElem?_toList_append, hp]; rfl
    have hcl := hm.2.2
    rcases hV with ⟨_, hn⟩ | ⟨bl, ol, cl, cs, rfl, hltb, hc, hrow⟩
    · rw [hn] at hi2; simp at hi2
    obtain ⟨hr1, hr2⟩ := hrow i p hp
    refine LoopWp.unroll (wp_seq (wp_region ?_))
    refine sx_q _ _ _ rfl rfl rfl (by decide) hX rfl (by first | exact hop_bin rfl rfl (bin_lss (by first | exact decide_eq_true (by assumption) | exact decide_eq_false (by assumption))) | rfl) fun a hX => ?_
    refine wp_seq (sx_true hX rfl (wp_skip ?_))
    refine wp_seq (wp_block (wp_seq (wp_region ?_)))
    refine sx_q _ _ (.ptr bl (ol + i * 2)) rfl rfl rfl (by decide) hX rfl (hop_index ix_23 rfl rfl hi2) fun a hX => ?_
    refine sx_q _ _ (.agg [.int .i64 p.1, .int .i64 p.2]) rfl rfl rfl (by decide) hX rfl (hop_loadN ty_52 rfl ((hX.old hc hltb (fun h => h)).loadN hr1 hr2)) fun a hX => ?_
    refine sx_new _ _ (fun b => .ptr b 0) _ rfl rfl rfl (by decide) hX (hop_alloc zc_52) fun b2 ρ H a w hX => ?_
    refine sx_st _ 1 b2 0 _ [.int .i64 p.1, .int .i64 p.2] rfl rfl rfl hX rfl (by simp) (hop_storeN sz_52 rfl rfl rfl rfl) fun ρ H w hX => ?_
    refine wp_seq (wp_seq (wp_region ?_))
    refine sx_q _ _ _ rfl rfl rfl (by decide) hX rfl (hop_field' fz_52_0 rfl) fun a hX => ?_
    refine sx_q _ _ (.int .i64 p.1) rfl rfl rfl (by decide) hX rfl (hop_load ty_3 rfl (hX.ld 1 rfl rfl)) fun a hX => ?_
    refine sx_q _ _ _ rfl rfl rfl (by decide) hX rfl rfl fun a hX => ?_
    by_cases h1 : p.1 ≤ last
    · refine sx_q _ _ (.bool true) rfl rfl rfl (by decide) hX rfl (hop_bin rfl rfl (bin_leq (decide_eq_true h1))) fun a hX => ?_
      refine sx_q _ _ _ rfl rfl rfl (by decide) hX rfl rfl fun a hX => ?_
      refine sx_gf _ _ rfl rfl rfl (by decide) hX rfl fun a hX => ?_
      refine sx_gf _ _ rfl rfl rfl (by decide) hX rfl fun a hX => ?_
      refine sx_gf _ _ rfl rfl rfl (by decide) hX rfl fun a hX => ?_
      refine sx_gf _ _ rfl rfl rfl (by decide) hX rfl fun a hX => ?_
      refine sx_gf _ _ rfl rfl rfl (by decide) hX rfl fun a hX => ?_
      refine sx_q _ _ _ rfl rfl rfl (by decide) hX rfl rfl fun a hX => ?_
      refine sx_true hX rfl (wp_seq (wp_region ?_))
      refine sx_q _ _ _ rfl rfl rfl (by decide) hX rfl rfl fun a hX => ?_
      refine ret13 m _ ?_ hX rfl id
      rw [hchk, hcb, hd]; unfold Img.cellB; rw [if_pos h1]; rfl
    · refine sx_q _ _ (.bool false) rfl rfl rfl (by decide) hX rfl (hop_bin rfl rfl (bin_leq (decide_eq_false h1))) fun a hX => ?_
      refine sx_q _ _ _ rfl rfl rfl (by decide) hX rfl rfl fun a hX => ?_
      refine sx_gt _ _ _ rfl rfl rfl (by decide) hX rfl (hop_field' fz_52_0 rfl) fun a hX => ?_
      refine sx_gt _ _ (.int .i64 p.1) rfl rfl rfl (by decide) hX rfl (hop_load ty_3 rfl (hX.ld 1 rfl rfl)) fun a hX => ?_
      refine sx_gt _ _ _ rfl rfl rfl (by decide) hX rfl (hop_field' fz_25_1 rfl) fun a hX => ?_
      refine sx_gt _ _ (.int .i64 m.mem) rfl rfl rfl (by decide) hX rfl (hop_load ty_3 rfl (hX.ld 0 rfl rfl)) fun a hX => ?_
      by_cases h2 : m.mem ≤ p.1
      · refine sx_gt _ _ (.bool true) rfl rfl rfl (by decide) hX rfl (hop_bin rfl rfl (bin_geq (decide_eq_true h2))) fun a hX => ?_
        refine sx_q _ _ _ rfl rfl rfl (by decide) hX rfl rfl fun a hX => ?_
        refine sx_true hX rfl (wp_seq (wp_region ?_))
        refine sx_q _ _ _ rfl rfl rfl (by decide) hX rfl rfl fun a hX => ?_
        refine ret13 m _ ?_ hX rfl id
        rw [hchk, hcb, hd]; unfold Img.cellB; rw [if_neg h1, if_pos h2]; rfl
      · refine sx_gt _ _ (.bool false) rfl rfl rfl (by decide) hX rfl (hop_bin rfl rfl (bin_geq (decide_eq_false h2))) fun a hX => ?_
        refine sx_q _ _ _ rfl rfl rfl (by decide) hX rfl rfl fun a hX => ?_
        refine sx_false hX rfl (wp_skip ?_)
        refine wp_region ?_
        refine sx_q _ _ _ rfl rfl rfl (by decide) hX rfl (hop_field' fz_52_0 rfl) fun a hX => ?_
        refine sx_q _ _ (.int .i64 p.1) rfl rfl rfl (by decide) hX rfl (hop_load ty_3 rfl (hX.ld 1 rfl rfl)) fun a hX => ?_
        refine sx_q _ _ _ rfl rfl rfl (by decide) hX rfl rfl fun a hX => ?_
        have hcb2 : Img.cellB m.mem (-1) m.cells = Img.cellB m.mem p.1 (m.cells.drop (i + 1)) := by
          rw [hcb, hd]
          show (if p.1 ≤ last then false else if m.mem ≤ p.1 then false else Img.cellB m.mem p.1 (m.cells.drop (i + 1))) = _
          rw [if_neg h1, if_neg h2]
        show ((seqR (seqR (seqR lpC))).wp _ _ _ _)
        refine wp_region ?_
        have e2 : IntKind.i64.wrap ((i : Int) + Int.ofNat 1) = ((i + 1 : Nat) : Int) := by rw [wrap_i64]; unfold Img.wrapI; show ((i : Int) + 1 + _) % _ - _ = _; omega
        refine sx_q _ _ (.int .i64 ((i + 1 : Nat) : Int)) rfl rfl rfl (by decide) hX rfl (by rw [← e2]; exact hop_bin rfl rfl bin_add) fun a hX => ?_
        refine sx_q _ _ _ rfl rfl rfl (by decide) hX rfl rfl fun a hX => ?_
        exact ih (i + 1) (by omega) p.1 hcb2 ρ H _ w ((hX.keep1 0 rfl).slots _ ⟨rfl, rfl, rfl, rfl, rfl, trivial⟩)
theorem tso_d (m : Img.Im) (Vc Ve : AV) (hm : Img.WfI m) (hlim : Img.limB m = false) (hmem : ¬ m.mem < 1) (hbad : Img.badB m = false) (hV : SlCells H0 Ve m.cells) (b : Nat) (hX : Sx Tryz.prog ρ0 H0 w0 73 No [(b, cellsIm Vc Ve m)] (listF (S13 b)) ρ H a w) : t13d.wp Tryz.prog (P13 m ρ0 H0 w0) a w := by
  refine wp_seq (wp_region ?_)
  refine sx_q _ _ _ rfl rfl rfl (by decide) hX rfl rfl fun a hX => ?_
  refine wp_seq (wp_seq (wp_region ?_))
  refine sx_q _ _ _ rfl rfl rfl (by decide) hX rfl (hop_field' fz_25_2 rfl) fun a hX => ?_
  refine sx_q _ _ Ve rfl rfl rfl (by decide) hX rfl (hop_load ty_23 rfl (hX.ld 0 rfl rfl)) fun a hX => ?_
  refine sx_q _ _ (.int .i64 (.ofNat m.cells.length)) rfl rfl rfl (by decide) hX rfl (hop_lenCells hV rfl) fun a hX => ?_
  refine sx_q _ _ _ rfl rfl rfl (by decide) hX rfl rfl fun a hX => ?_
  refine wp_block (LoopWp.wp ?_)
  exact tso_lpC m Vc Ve hm hlim hmem hbad hV b m.cells.length 0 (by omega) (-1) rfl ρ H _ w (hX.slots _ ⟨rfl, rfl, rfl, rfl, rfl, trivial⟩)
/-- The rows' operations. -/
theorem tso_lpB (m : Img.Im) (Vc Ve : AV) (hm : Img.WfI m) (hlim : Img.limB m = false) (hmem : ¬ m.mem < 1) (hV : SlRows H0 Vc m.code) (hVe : SlCells H0 Ve m.cells) (b : Nat) : ∀ (k i : Nat), i + k = m.code.length → Img.badB m = ((m.code.drop i).any fun l => l.any fun o => !Img.okB o) → ∀ (ρ : Rho) (H : Hp) (a : Act) (w : World),
    Sx Tryz.prog ρ0 H0 w0 73 No [(b, cellsIm Vc Ve m)] (listF ((43, Vc) :: (44, .int .i64 (m.code.length : Int)) :: (45, .int .i64 (i : Int)) :: S13 b)) ρ H a w →
    LoopWp Tryz.prog lpB (Exit.inBlock 3 (Exit.then (t13d.wp Tryz.prog (P13 m ρ0 H0 w0)) (P13 m ρ0 H0 w0))) a w := by
  intro k
  induction k with
  | zero =>
    intro i hi hb ρ H a w hX
    have hlt : ¬ ((i : Int) < (m.code.length : Int)) := by omega
    refine LoopWp.unroll (wp_seq (wp_region ?_))
    refine sx_q _ _ _ rfl rfl rfl (by decide) hX rfl (by first | exact hop_bin rfl rfl (bin_lss (by first | exact decide_eq_true (by assumption) | exact decide_eq_false (by assumption))) | rfl) fun a hX => ?_
    refine wp_seq (sx_false hX rfl (wp_exit ?_))
    refine then_exit (then_exit (inBlock_hit ?_))
    show t13d.wp _ _ _ _
    rw [List.drop_eq_nil_iff.2 (by omega)] at hb
    exact tso_d m Vc Ve hm hlim hmem hb hVe b (hX.slots _ ⟨rfl, trivial⟩)
  | succ k ih =>
    intro i hi hb ρ H a w hX
    have hlt : (i : Int) < (m.code.length : Int) := by omega
    have hi2 : i < m.code.length := by omega
    obtain ⟨l, hl⟩ : ∃ l, m.code[i]? = some l := ⟨_, List.getElem?_eq_getElem hi2⟩
    have hd : m.code.drop i = l :: m.code.drop (i + 1) := by rw [List.drop_eq_getElem?_toList_append, hl]; rfl
    have hcl := hm.2.1
    have hV0 := hV
    rcases hV with ⟨_, hn⟩ | ⟨bl, ol, cl, cs, rfl, hltb, hc, hrow⟩
    · rw [hn] at hi2; simp at hi2
    obtain ⟨Vl, hv, hVl⟩ := hrow i l hl
    obtain ⟨hw, hll⟩ := hm.1 l (List.mem_of_getElem? hl)
    refine LoopWp.unroll (wp_seq (wp_region ?_))
    refine sx_q _ _ _ rfl rfl rfl (by decide) hX rfl (by first | exact hop_bin rfl rfl (bin_lss (by first | exact decide_eq_true (by assumption) | exact decide_eq_false (by assumption))) | rfl) fun a hX => ?_
    refine wp_seq (sx_true hX rfl (wp_skip ?_))
    refine wp_seq (wp_block (wp_seq (wp_region ?_)))
    refine sx_q _ _ (.ptr bl (ol + i * 1)) rfl rfl rfl (by decide) hX rfl (hop_index ix_22 rfl rfl hi2) fun a hX => ?_
    refine sx_q _ _ Vl rfl rfl rfl (by decide) hX rfl (hop_load ty_45 rfl ((hX.old hc hltb (fun h => h)).load1 hv)) fun a hX => ?_
    refine sx_q _ _ _ rfl rfl rfl (by decide) hX rfl rfl fun a hX => ?_
    refine wp_seq (wp_region ?_)
    refine sx_q _ _ _ rfl rfl rfl (by decide) hX rfl rfl fun a hX => ?_
    refine sx_pure _ _ 30 [Vl, F31] (.bool (l.any fun o => !Img.okB o)) rfl rfl rfl (by decide) hX (hop_callf en_30 rfl) (cf_spec l hll hw Vl (hVl.mono hX.stays hX.next_le)) fun ρ H a w hX => ?_
    rw [hd, List.any_cons] at hb
    rcases bcases (l.any fun o => !Img.okB o) with hok | hok
    · rw [hok] at hX hb
      refine sx_true hX rfl (wp_seq (wp_region ?_))
      refine sx_q _ _ _ rfl rfl rfl (by decide) hX rfl rfl fun a hX => ?_
      refine ret13 m _ ?_ hX rfl id
      unfold Img.tchk; rw [hlim, if_neg hmem, hb]; rfl
    · rw [hok] at hX hb
      refine sx_false hX rfl (wp_skip ?_)
      show ((seqR (seqR (seqR lpB))).wp _ _ _ _)
      refine wp_region ?_
      have e2 : IntKind.i64.wrap ((i : Int) + Int.ofNat 1) = ((i + 1 : Nat) : Int) := by rw [wrap_i64]; unfold Img.wrapI; show ((i : Int) + 1 + _) % _ - _ = _; omega
      refine sx_q _ _ (.int .i64 ((i + 1 : Nat) : Int)) rfl rfl rfl (by decide) hX rfl (by rw [← e2]; exact hop_bin rfl rfl bin_add) fun a hX => ?_
      refine sx_q _ _ _ rfl rfl rfl (by decide) hX rfl rfl fun a hX => ?_
      exact ih (i + 1) (by omega) (by rw [hb, Bool.false_or]) ρ H _ w (hX.slots _ ⟨rfl, rfl, rfl, rfl, trivial⟩)
theorem tso_c (m : Img.Im) (Vc Ve : AV) (hm : Img.WfI m) (hlim : Img.limB m = false) (hmem : ¬ m.mem < 1) (hV : SlRows H0 Vc m.code) (hVe : SlCells H0 Ve m.cells) (b : Nat) (hX : Sx Tryz.prog ρ0 H0 w0 73 No [(b, cellsIm Vc Ve m)] (listF (S13 b)) ρ H a w) : t13c.wp Tryz.prog (P13 m ρ0 H0 w0) a w := by
  refine wp_seq (wp_seq (wp_region ?_))
  refine sx_q _ _ _ rfl rfl rfl (by decide) hX rfl (hop_field' fz_25_0 rfl) fun a hX => ?_
  refine sx_q _ _ Vc rfl rfl rfl (by decide) hX rfl (hop_load ty_22 rfl (hX.ld 0 rfl rfl)) fun a hX => ?_
  refine sx_q _ _ (.int .i64 (.ofNat m.code.length)) rfl rfl rfl (by decide) hX rfl (hop_lenRows hV rfl) fun a hX => ?_
  refine sx_q _ _ _ rfl rfl rfl (by decide) hX rfl rfl fun a hX => ?_
  refine wp_block (LoopWp.wp ?_)
  exact tso_lpB m Vc Ve hm hlim hmem hV hVe b m.code.length 0 (by omega) rfl ρ H _ w (hX.slots _ ⟨rfl, rfl, rfl, rfl, trivial⟩)
end Go.Vex
namespace Go.Vex
open Go.Proofs
set_option maxRecDepth 100000
variable {ρ ρ0 : Rho} {H H0 : Hp} {w w0 : World} {a : Act} {Q : Exit → Act → World → Prop}
theorem tso_b (m : Img.Im) (Vc Ve : AV) (hm : Img.WfI m) (hV : SlRows H0 Vc m.code) (hVe : SlCells H0 Ve m.cells) (b : Nat) (hX : Sx Tryz.prog ρ0 H0 w0 73 No [(b, cellsIm Vc Ve m)] (listF ((3, .int .i64 (Img.sumS m.code)) :: S13 b)) ρ H a w) : t13b.wp Tryz.prog (P13 m ρ0 H0 w0) a w := by
  have K1 : Img.limB m = true → ∀ {F : SlF} {Q : Exit → Act → World → Prop} {ρ : Rho} {H : Hp} {a : Act} {w : World}, Sx Tryz.prog ρ0 H0 w0 73 No [(b, cellsIm Vc Ve m)] F ρ H a w → F 2 = some (.int .i64 3) → (Leaves Tryz.prog Tryz.f13 a.tmps (Post ρ0 H0 w0 (Pure (.int .i64 (Img.tchk m)) H0)) a.defers .returning w → Q .ret a w) → Code.ret.wp Tryz.prog Q a w := by
    intro hl F Q ρ H a w hX hF hQ
    refine ret13 m _ ?_ hX hF hQ
    unfold Img.tchk; rw [hl]; rfl
  have K2 : Img.limB m = false → ∀ {F : SlF} {ρ : Rho} {H : Hp} {a : Act} {w : World}, F 1 = some (.ptr b 0) → Sx Tryz.prog ρ0 H0 w0 73 No [(b, cellsIm Vc Ve m)] F ρ H a w → (condE (seqR (blkB (seqL t13b)))).wp Tryz.prog (Exit.inBlock 2 (Exit.then (t13c.wp Tryz.prog (P13 m ρ0 H0 w0)) (P13 m ρ0 H0 w0))) a w := by
    intro hl F ρ H a w hF hX
    have hX := hX.slots (S13 b) ⟨hF, trivial⟩
    refine wp_seq (wp_region ?_)
    refine sx_q _ _ _ rfl rfl rfl (by decide) hX rfl (hop_field' fz_25_1 rfl) fun a hX => ?_
    refine sx_q _ _ (.int .i64 m.mem) rfl rfl rfl (by decide) hX rfl (hop_load ty_3 rfl (hX.ld 0 rfl rfl)) fun a hX => ?_
    by_cases h1 : m.mem < 1
    · refine sx_q _ _ (.bool true) rfl rfl rfl (by decide) hX rfl (hop_bin rfl rfl (bin_lss (decide_eq_true h1))) fun a hX => ?_
      refine sx_q _ _ _ rfl rfl rfl (by decide) hX rfl rfl fun a hX => ?_
      refine sx_true hX rfl (wp_seq (wp_region ?_))
      refine sx_q _ _ _ rfl rfl rfl (by decide) hX rfl rfl fun a hX => ?_
      refine ret13 m _ ?_ hX rfl id
      unfold Img.tchk; rw [hl, if_pos h1]; rfl
    · refine sx_q _ _ (.bool false) rfl rfl rfl (by decide) hX rfl (hop_bin rfl rfl (bin_lss (decide_eq_false h1))) fun a hX => ?_
      refine sx_q _ _ _ rfl rfl rfl (by decide) hX rfl rfl fun a hX => ?_
      refine sx_false hX rfl (wp_skip ?_)
      show t13c.wp _ _ _ _
      exact tso_c m Vc Ve hm hl h1 hV hVe b (hX.slots _ ⟨rfl, trivial⟩)
  refine wp_seq (wp_block (wp_seq (wp_region ?_)))
  refine sx_q _ _ _ rfl rfl rfl (by decide) hX rfl (hop_field' fz_25_1 rfl) fun a hX => ?_
  refine sx_q _ _ (.int .i64 m.mem) rfl rfl rfl (by decide) hX rfl (hop_load ty_3 rfl (hX.ld 0 rfl rfl)) fun a hX => ?_
  by_cases h1 : 262144 < m.mem
  · have hl : Img.limB m = true := by unfold Img.limB; simp [h1]
    refine sx_q _ _ (.bool true) rfl rfl rfl (by decide) hX rfl (hop_bin rfl rfl (bin_gtr (decide_eq_true h1))) fun a hX => ?_
    refine sx_q _ _ _ rfl rfl rfl (by decide) hX rfl rfl fun a hX => ?_
    refine sx_gf _ _ rfl rfl rfl (by decide) hX rfl fun a hX => ?_
    refine sx_gf _ _ rfl rfl rfl (by decide) hX rfl fun a hX => ?_
    refine sx_gf _ _ rfl rfl rfl (by decide) hX rfl fun a hX => ?_
    refine sx_gf _ _ rfl rfl rfl (by decide) hX rfl fun a hX => ?_
    refine sx_q _ _ _ rfl rfl rfl (by decide) hX rfl rfl fun a hX => ?_
    refine sx_q _ _ _ rfl rfl rfl (by decide) hX rfl rfl fun a hX => ?_
    refine sx_gf _ _ rfl rfl rfl (by decide) hX rfl fun a hX => ?_
    refine sx_gf _ _ rfl rfl rfl (by decide) hX rfl fun a hX => ?_
    refine sx_q _ _ _ rfl rfl rfl (by decide) hX rfl rfl fun a hX => ?_
    refine sx_q _ _ _ rfl rfl rfl (by decide) hX rfl rfl fun a hX => ?_
    refine sx_true hX rfl (wp_seq (wp_region ?_))
    refine sx_q _ _ _ rfl rfl rfl (by decide) hX rfl rfl fun a hX => ?_
    exact K1 hl hX rfl id
  · refine sx_q _ _ (.bool false) rfl rfl rfl (by decide) hX rfl (hop_bin rfl rfl (bin_gtr (decide_eq_false h1))) fun a hX => ?_
    refine sx_q _ _ _ rfl rfl rfl (by decide) hX rfl rfl fun a hX => ?_
    refine sx_gt _ _ _ rfl rfl rfl (by decide) hX rfl (hop_field' fz_25_0 rfl) fun a hX => ?_
    refine sx_gt _ _ Vc rfl rfl rfl (by decide) hX rfl (hop_load ty_22 rfl (hX.ld 0 rfl rfl)) fun a hX => ?_
    refine sx_gt _ _ (.int .i64 (.ofNat m.code.length)) rfl rfl rfl (by decide) hX rfl (hop_lenRows hV rfl) fun a hX => ?_
    by_cases h2 : 4 < (m.code.length : Int)
    · have hl : Img.limB m = true := by unfold Img.limB; simp [h2]
      refine sx_gt _ _ (.bool true) rfl rfl rfl (by decide) hX rfl (hop_bin rfl rfl (bin_gtr (decide_eq_true h2))) fun a hX => ?_
      refine sx_q _ _ _ rfl rfl rfl (by decide) hX rfl rfl fun a hX => ?_
      refine sx_q _ _ _ rfl rfl rfl (by decide) hX rfl rfl fun a hX => ?_
      refine sx_gf _ _ rfl rfl rfl (by decide) hX rfl fun a hX => ?_
      refine sx_gf _ _ rfl rfl rfl (by decide) hX rfl fun a hX => ?_
      refine sx_q _ _ _ rfl rfl rfl (by decide) hX rfl rfl fun a hX => ?_
      refine sx_q _ _ _ rfl rfl rfl (by decide) hX rfl rfl fun a hX => ?_
      refine sx_true hX rfl (wp_seq (wp_region ?_))
      refine sx_q _ _ _ rfl rfl rfl (by decide) hX rfl rfl fun a hX => ?_
      exact K1 hl hX rfl id
    · refine sx_gt _ _ (.bool false) rfl rfl rfl (by decide) hX rfl (hop_bin rfl rfl (bin_gtr (decide_eq_false h2))) fun a hX => ?_
      refine sx_q _ _ _ rfl rfl rfl (by decide) hX rfl rfl fun a hX => ?_
      refine sx_q _ _ _ rfl rfl rfl (by decide) hX rfl rfl fun a hX => ?_
      refine sx_gt _ _ _ rfl rfl rfl (by decide) hX rfl rfl fun a hX => ?_
      by_cases h3 : 262144 < Img.sumS m.code
      · have hl : Img.limB m = true := by unfold Img.limB; simp [h3]
        refine sx_gt _ _ (.bool true) rfl rfl rfl (by decide) hX rfl (hop_bin rfl rfl (bin_gtr (decide_eq_true h3))) fun a hX => ?_
        refine sx_q _ _ _ rfl rfl rfl (by decide) hX rfl rfl fun a hX => ?_
        refine sx_q _ _ _ rfl rfl rfl (by decide) hX rfl rfl fun a hX => ?_
        refine sx_true hX rfl (wp_seq (wp_region ?_))
        refine sx_q _ _ _ rfl rfl rfl (by decide) hX rfl rfl fun a hX => ?_
        exact K1 hl hX rfl id
      · have hl : Img.limB m = false := by unfold Img.limB; simp; omega
        refine sx_gt _ _ (.bool false) rfl rfl rfl (by decide) hX rfl (hop_bin rfl rfl (bin_gtr (decide_eq_false h3))) fun a hX => ?_
        refine sx_q _ _ _ rfl rfl rfl (by decide) hX rfl rfl fun a hX => ?_
        refine sx_q _ _ _ rfl rfl rfl (by decide) hX rfl rfl fun a hX => ?_
        exact sx_false hX rfl (K2 hl rfl hX)
/-- tso.Check. -/
theorem tso_spec (m : Img.Im) (Vc Ve : AV) (hm : Img.WfI m) (hV : SlRows H Vc m.code) (hVe : SlCells H Ve m.cells) : Spec Tryz.prog 13 [.agg (cellsIm Vc Ve m)] H (Pure (.int .i64 (Img.tchk m)) H) := by
  refine spec_body0 73 Tryz.func13 rfl Tryz.ntmps13 (by simp) fun ρ w a hX => ?_
  refine wp_seq (wp_region ?_)
  refine sx_new _ _ (fun b => .ptr b 0) _ rfl rfl rfl (by decide) hX (hop_box rfl rfl) fun b ρ H a w hX => ?_
  refine sx_q _ _ _ rfl rfl rfl (by decide) hX rfl rfl fun a hX => ?_
  refine wp_seq (wp_region ?_)
  refine sx_q _ _ _ rfl rfl rfl (by decide) hX rfl rfl fun a hX => ?_
  refine wp_seq (wp_seq (wp_region ?_))
  refine sx_q _ _ _ rfl rfl rfl (by decide) hX rfl (hop_field' fz_25_0 rfl) fun a hX => ?_
  refine sx_q _ _ Vc rfl rfl rfl (by decide) hX rfl (hop_load ty_22 rfl (hX.ld 0 rfl rfl)) fun a hX => ?_
  refine sx_q _ _ (.int .i64 (.ofNat m.code.length)) rfl rfl rfl (by decide) hX rfl (hop_lenRows hV rfl) fun a hX => ?_
  refine sx_q _ _ _ rfl rfl rfl (by decide) hX rfl rfl fun a hX => ?_
  refine wp_block (LoopWp.wp ?_)
  refine tso_lpA m Vc Ve hm hV b m.code.length 0 (by omega) 0 (by omega) (by omega) (by rw [List.drop_zero]; omega) ρ H _ w (hX.slots _ ⟨rfl, rfl, rfl, rfl, rfl, trivial⟩) fun ρ H a w hX => ?_
  exact tso_b m Vc Ve hm hV hVe b hX
end Go.Vex
namespace Go.Vex
open Go.Proofs
set_option maxRecDepth 100000
theorem el_49 : elemOf Tryz.prog 49 = some 5 := by kernel_rfl
noncomputable abbrev c14 : Code := codeOf Tryz.f14
noncomputable abbrev lp14 : Code := loopB (blkB (seqR c14))
theorem plan14 : drawPlan (opsOf (blkB (seqL (seqR lp14)))) = some [⟨0, [], []⟩, ⟨1, [], []⟩, ⟨2, [], []⟩, ⟨3, [], []⟩, ⟨4, [], []⟩, ⟨5, [], []⟩, ⟨6, [], []⟩, ⟨7, [3, 2], []⟩, ⟨8, [3, 2], []⟩, ⟨9, [], []⟩, ⟨10, [], []⟩, ⟨11, [], []⟩] := by kernel_rfl
theorem gl20 : (List.range 20).all (isGlob 1048575) = true := by kernel_rfl
variable {ρ ρ0 : Rho} {H H0 : Hp} {w w0 : World} {a : Act} {Q : Exit → Act → World → Prop} {Wr : Nat → Prop}
theorem num_lp (p : Nat) (n : Int) : ∀ (j : Nat) (bs : List Nat) (q : Nat) (c : Cap) (ρ : Rho) (H : Hp) (a : Act) (w : World), j ≤ 8 → bs.length + j ≤ 67108864 → CapOK 1 bs.length c →
    Sx Tryz.prog ρ0 H0 w0 20 Wr [(p, [.slice q 0 bs.length c]), (q, bytesAV bs)] (listF [(0, .ptr p 0), (1, .int .i64 n), (4, .int .i64 (8 * (j : Int) - 8))]) ρ H a w →
    (∀ q' c' ρ H a w, ((c' = .opn 1 ∧ H0.next ≤ q') ∨ (j = 0 ∧ q' = q ∧ c' = c)) → Sx Tryz.prog ρ0 H0 w0 20 Wr [(p, [.slice q' 0 (bs ++ Img.beN j n).length c']), (q', bytesAV (bs ++ Img.beN j n))] (listF [(0, .ptr p 0)]) ρ H a w → Q .normal a w) → LoopWp Tryz.prog lp14 (Exit.inBlock 0 Q) a w := by
  intro j
  induction j with
  | zero =>
    intro bs q c ρ H a w _ _ hcap hX K
    have h0 : ¬ (0 : Int) ≤ 8 * ((0 : Nat) : Int) - 8 := by omega
    refine LoopWp.unroll (wp_seq (wp_seq (wp_region ?_)))
    refine sx_q _ _ _ rfl rfl rfl (by decide) hX rfl rfl fun a hX => ?_
    refine sx_q _ _ _ rfl rfl rfl (by decide) hX rfl (by first | exact hop_bin rfl rfl (bin_geq (by first | exact decide_eq_true (by assumption) | exact decide_eq_false (by assumption))) | rfl) fun a hX => ?_
    refine sx_false hX rfl (wp_exit ?_)
    refine then_exit (then_exit (inBlock_hit ?_))
    refine K q c ρ H a w (.inr ⟨rfl, rfl, rfl⟩) ?_
    have e : bs ++ Img.beN 0 n = bs := List.append_nil _
    rw [e]
    exact hX.slots _ ⟨rfl, trivial⟩
  | succ j ih =>
    intro bs q c ρ H a w hj hlen hcap hX K
    have h0 : (0 : Int) ≤ 8 * ((j + 1 : Nat) : Int) - 8 := by omega
    refine LoopWp.unroll (wp_seq (wp_seq (wp_region ?_)))
    refine sx_q _ _ _ rfl rfl rfl (by decide) hX rfl rfl fun a hX => ?_
    refine sx_q _ _ _ rfl rfl rfl (by decide) hX rfl (by first | exact hop_bin rfl rfl (bin_geq (by first | exact decide_eq_true (by assumption) | exact decide_eq_false (by assumption))) | rfl) fun a hX => ?_
    refine sx_true hX rfl (wp_skip ?_)
    have e1 : (8 * ((j + 1 : Nat) : Int) - 8) = Int.ofNat (8 * j) := by show _ = ((8 * j : Nat) : Int); omega
    rw [e1] at hX
    refine wp_seq (wp_block ?_)
    have hpq : p ≠ q := fun e => by have := hX.ds 0 1 p _ (bytesAV bs) rfl (by rw [e]; rfl); omega
    have hpn : p < H.next := (hX.hp 0 p _ rfl).1
    have hqn : q < H.next := (hX.hp 1 q _ rfl).1
    have hNx := hX.next_le
    have hcp := hX.has 0 rfl
    have hcq := hX.has 1 rfl
    obtain ⟨tb, b1, b2⟩ := ofList_tot [AV.int .u8 (Img.byteAt (8 * j) n : Int)]
    obtain ⟨H1, ha⟩ := Hp.alloc_tot H (.cells [AV.int .u8 (Img.byteAt (8 * j) n : Int)].length .any tb)
    obtain ⟨a1, a2⟩ := Hp.alloc_fn ha
    have hcb : Content (H1.fn H.next) [AV.int .u8 (Img.byteAt (8 * j) n : Int)] := by rw [a2, if_pos rfl]; exact ofList_content b1
    have hcp1 : Content (H1.fn p) [.slice q 0 bs.length c] := by rw [a2, if_neg (by omega)]; exact hcp
    have hcq1 : Content (H1.fn q) (bytesAV bs) := by rw [a2, if_neg (by omega)]; exact hcq
    obtain ⟨H2, g1, g2, g3, g4⟩ := app_any (P := Tryz.prog) (H := H1) (m := 1) (x := .slice H.next 0 1 (.fix 1)) gr_5 rfl (by decide) (by omega) (hcb.loadN (i := 0) (k := 1) (by simp) rfl) (by simp [bytesAV]) hcq1 (by decide) hcap
    have hcp2 : Content (H2.fn p) [.slice q 0 bs.length c] := by rw [g3 p (by omega) hpq]; exact hcp1
    obtain ⟨H3, s1, s2, s3, s4⟩ := hcp2.store (i := 0) (vs := [.slice H1.next 0 (bs.length + 1) (.opn 1)]) (by simp)
    refine sx_draw fo noCall_ok 1048575 [(0, .ptr p 0), (1, .int .i64 n), (4, .int .i64 (.ofNat (8 * j)))] _ _ H3 hX ⟨rfl, rfl, rfl, trivial⟩ plan14
      (draw_val rfl rfl rfl rfl rfl rfl (draw_val rfl rfl rfl rfl rfl rfl (draw_val rfl rfl rfl rfl rfl rfl (draw_val rfl rfl rfl (hop_load ty_49 rfl (hcp.load1 rfl)) rfl rfl
        (draw_val rfl rfl rfl rfl rfl rfl (draw_val rfl rfl rfl rfl rfl rfl (draw_val rfl rfl rfl (hop_bin rfl rfl (bin_shr (y := 8 * j))) rfl rfl
          (draw_val (v := .int .u8 (Img.byteAt (8 * j) n : Int)) rfl rfl rfl (by rw [← byteAt_wrap (8 * j) (by omega)]; exact hop_conv Tryz.underlying2 Tryz.underlying5 rfl) rfl (again_cons rfl rfl (hop_load ty_49 rfl (hcp.load1 rfl)) rfl rfl (again_cons rfl rfl rfl rfl rfl rfl))
            (draw_val rfl rfl rfl (hop_bslice' b1 H1 ha el_49 sz_5 zc_5 rfl rfl rfl (by decide)) rfl (again_cons rfl rfl (hop_load ty_49 rfl (hcp1.load1 rfl)) rfl rfl (again_cons rfl rfl rfl rfl rfl rfl))
              (draw_val rfl rfl rfl (hop_app el_49 Tryz.underlying49 rfl rfl rfl g1) rfl rfl (draw_val rfl rfl rfl rfl rfl rfl (draw_skip rfl rfl rfl (hop_storeN sz_49 rfl rfl rfl rfl H3 s1) rfl rfl rfl)))))))))))) fun ρ a w hE hd hr hx => ?_
    have hX := hX.anyD hr hx (EnvS.sl gl20 hE [(0, .ptr p 0), (1, .int .i64 n), (4, .int .i64 (.ofNat (8 * j)))] ⟨⟨rfl, rfl⟩, ⟨rfl, rfl⟩, ⟨rfl, rfl⟩, trivial⟩) hd (fun c hc hne => by
        have c1 : c ≠ p := fun e => hne _ (List.mem_cons_self) e.symm
        have c2 : c ≠ q := fun e => hne _ (List.mem_cons_of_mem _ List.mem_cons_self) e.symm
        rw [s3 c c1, g3 c (by omega) c2, a2, if_neg (by omega)]) [(p, [.slice H1.next 0 (bs.length + 1) (.opn 1)]), (H1.next, bytesAV (bs ++ [Img.byteAt (8 * j) n]))] (fun x hx => by
        rcases List.mem_cons.1 hx with rfl | hx
        · exact ⟨by show p < _; omega, s4, .inr ⟨_, List.mem_cons_self, rfl⟩⟩
        · rw [List.mem_singleton.1 hx]
          refine ⟨by show H1.next < _; omega, ?_, .inl (by show H.next ≤ H1.next; omega)⟩
          show Content (H3.fn H1.next) _
          rw [s3 _ (by omega)]
          have : bytesAV (bs ++ [Img.byteAt (8 * j) n]) = bytesAV bs ++ [.int .u8 (Img.byteAt (8 * j) n : Int)] := by simp [bytesAV]
          rw [this]; exact g4) (by
        show (p :: [H1.next]).Nodup
        simp; omega)
    show ((seqR (seqR lp14)).wp _ _ _ _)
    refine wp_region ?_
    refine sx_q _ _ _ rfl rfl rfl (by decide) hX rfl rfl fun a hX => ?_
    have e2 : IntKind.i64.wrap (Int.ofNat (8 * j) - 8) = 8 * (j : Int) - 8 := by
      rw [wrap_i64]; unfold Img.wrapI; show (((8 * j : Nat) : Int) - 8 + _) % _ - _ = _; omega
    refine sx_q _ _ (.int .i64 (8 * (j : Int) - 8)) rfl rfl rfl (by decide) hX rfl (by rw [← e2]; exact hop_bin rfl rfl bin_sub) fun a hX => ?_
    refine sx_q _ _ _ rfl rfl rfl (by decide) hX rfl rfl fun a hX => ?_
    have hl : (bs ++ [Img.byteAt (8 * j) n]).length = bs.length + 1 := by simp
    have e3 : bs ++ [Img.byteAt (8 * j) n] ++ Img.beN j n = bs ++ Img.beN (j + 1) n := by simp [Img.beN]
    refine ih (bs ++ [Img.byteAt (8 * j) n]) H1.next (.opn 1) ρ H3 _ w (by omega) (by rw [hl]; omega) (.inl rfl) ?_ fun q' c' ρ H a w hq hX => ?_
    · rw [hl]; exact hX.slots _ ⟨rfl, rfl, rfl, trivial⟩
    · rw [e3] at hX
      refine K q' c' ρ H a w (.inl ?_) hX
      rcases hq with h | ⟨_, rfl, rfl⟩
      · exact h
      · exact ⟨rfl, by omega⟩
/-- What a writer of bytes leaves: block p holds the row, which lies in a new block. -/
def BtR (p q : Nat) (bs : List Nat) (H : Hp) (v : AV) (H' : Hp) : Prop := v = .tup [] ∧ ∃ q', H.next ≤ q' ∧ q' < H'.next ∧ Content (H'.fn p) [.slice q' 0 bs.length (.opn 1)] ∧ Content (H'.fn q') (bytesAV bs) ∧ ∀ c, c < H.next → c ≠ p → c ≠ q → H'.fn c = H.fn c
/-- bytes.number. -/
theorem two_hp {P1 : Nat → List AV → Prop} {p q : Nat} {cp cq : List AV} (h1 : P1 p cp) (h2 : P1 q cq) : ∀ (k b : Nat) (cs : List AV), [(p, cp), (q, cq)][k]? = some (b, cs) → P1 b cs := by
  intro k b cs hk
  rcases k with _ | _ | k
  · simp at hk; obtain ⟨rfl, rfl⟩ := hk; exact h1
  · simp at hk; obtain ⟨rfl, rfl⟩ := hk; exact h2
  · simp at hk
theorem two_ds {p q : Nat} {cp cq : List AV} (h : p ≠ q) : ∀ (j k b : Nat) (cs cs' : List AV), [(p, cp), (q, cq)][j]? = some (b, cs) → [(p, cp), (q, cq)][k]? = some (b, cs') → j = k := by
  intro j k b cs cs' hj hk
  rcases j with _ | _ | j <;> rcases k with _ | _ | k <;> simp at hj hk <;> first | rfl | (exact absurd (hj.1.trans hk.1.symm) h) | (exact absurd (hk.1.trans hj.1.symm) h)
theorem num_spec (p q : Nat) (n : Int) (bs : List Nat) (c : Cap) (hl : bs.length + 8 ≤ 67108864) (hcap : CapOK 1 bs.length c) (hpq : p ≠ q) (hp : p < H.next) (hq : q < H.next) (hcp : Content (H.fn p) [.slice q 0 bs.length c]) (hcq : Content (H.fn q) (bytesAV bs)) : Spec Tryz.prog 14 [.ptr p 0, .int .i64 n] H (BtR p q (bs ++ Img.beN 8 n) H) := by
  refine spec_body 20 Tryz.func14 rfl Tryz.ntmps14 (by simp) (fun b => b = p ∨ b = q) [(p, [.slice q 0 bs.length c]), (q, bytesAV bs)] ?_ ?_ fun ρ w a hX => ?_
  · exact two_hp (P1 := fun b cs => b < H.next ∧ Content (H.fn b) cs ∧ (b = p ∨ b = q)) ⟨hp, hcp, .inl rfl⟩ ⟨hq, hcq, .inr rfl⟩
  · exact two_ds hpq
  refine wp_seq (wp_region ?_)
  refine sx_q _ _ _ rfl rfl rfl (by decide) hX rfl rfl fun a hX => ?_
  refine wp_block (LoopWp.wp ?_)
  refine num_lp p n 8 bs q c ρ H _ w (by omega) hl hcap (hX.slots _ ⟨rfl, rfl, rfl, trivial⟩) fun q' c' ρ H a w hq hX => ?_
  rcases hq with ⟨rfl, hq⟩ | ⟨h, _⟩
  · refine sx_end0 hX rfl ⟨rfl, q', hq, (hX.hp 1 q' _ rfl).1, hX.has 0 rfl, hX.has 1 rfl, fun c hc h1 h2 => hX.kp c hc fun h => h.elim h1 h2⟩
  · cases h
end Go.Vex
namespace Go.Vex
open Go.Proofs
set_option maxRecDepth 100000
variable {P : Program} {ρ ρ0 : Rho} {H H0 : Hp} {w w0 : World} {a : Act} {Q : Exit → Act → World → Prop} {Wr : Nat → Prop}
/-- A call that writes bytes behind a row of the walk's own. -/
theorem sx_bt {ops : Array Oper} {i n : Nat} {rest : List Nat} {F : SlF} (o : Oper) (d : Nat) (f : FuncId) (args : List AV) {p q : Nat} {bs bs' : List Nat} {c : Cap} {Ψ : List (Nat × List AV)} (ho : ops[i]? = some o) (hg : o.guard = none) (hd : o.dst = some d) (hdn : d < n)
    (h : Sx P ρ0 H0 w0 n Wr ((p, [.slice q 0 bs.length c]) :: (q, bytesAV bs) :: Ψ) F ρ H a w) (hop : opA P o.op (envF F) H = some (.call f args))
    (hs : p ≠ q → p < H.next → q < H.next → Content (H.fn p) [.slice q 0 bs.length c] → Content (H.fn q) (bytesAV bs) → Spec P f args H (BtR p q bs' H))
    (hn : ∀ q', H.next ≤ q' → ∀ ρ H a w, Sx P ρ0 H0 w0 n Wr ((p, [.slice q' 0 bs'.length (.opn 1)]) :: (q', bytesAV bs') :: Ψ) (upd F d (.tup [])) ρ H a w → wpOps P ops Q rest a w) : wpOps P ops Q (i :: rest) a w := by
  have hnd := h.nodup
  simp only [List.map_cons, List.nodup_cons, List.mem_cons, not_or] at hnd
  obtain ⟨⟨hpq, hpΨ⟩, hqΨ, hΨ⟩ := hnd
  refine sx_call o f args ho hg h hop (hs hpq (h.hp 0 p _ rfl).1 (h.hp 1 q _ rfl).1 (h.has 0 rfl) (h.has 1 rfl)) fun v ρ' H' u w' hR hv hr hx => ?_
  obtain ⟨rfl, q', g1, g2, g3, g4, g5⟩ := hR
  rw [hd]
  have hpn := (h.hp 0 p _ rfl).1
  have hX : Sx P ρ0 H0 w0 n Wr ((p, [.slice q' 0 bs'.length (.opn 1)]) :: (q', bytesAV bs') :: Ψ) F ρ' H' a w' := by
    refine h.anyD hr hx (h.sl.mono hx.sub) h.df (fun c hc hne => g5 c hc (fun e => hne _ List.mem_cons_self e.symm) (fun e => hne _ (List.mem_cons_of_mem _ List.mem_cons_self) e.symm)) _ (fun x hx' => ?_) ?_
    · rcases List.mem_cons.1 hx' with rfl | hx'
      · exact ⟨Nat.lt_of_lt_of_le hpn hx.next, g3, .inr ⟨_, List.mem_cons_self, rfl⟩⟩
      · rcases List.mem_cons.1 hx' with rfl | hx'
        · exact ⟨g2, g4, .inl g1⟩
        · have hxm : x.1 ∈ Ψ.map (·.1) := List.mem_map_of_mem hx'
          obtain ⟨k, hk⟩ := List.mem_iff_getElem?.1 hx'
          obtain ⟨k1, k2, _⟩ := h.hp (k + 2) x.1 x.2 hk
          refine ⟨Nat.lt_of_lt_of_le k1 hx.next, ?_, .inr ⟨x, List.mem_cons_of_mem _ (List.mem_cons_of_mem _ hx'), rfl⟩⟩
          rw [g5 x.1 k1 (fun e => hpΨ (e ▸ hxm)) (fun e => hqΨ (e ▸ hxm))]; exact k2
    · simp only [List.map_cons, List.nodup_cons, List.mem_cons, not_or]
      refine ⟨⟨by omega, hpΨ⟩, fun hm => ?_, hΨ⟩
      obtain ⟨x, hx', e⟩ := List.mem_map.1 hm
      obtain ⟨k, hk⟩ := List.mem_iff_getElem?.1 hx'
      have := (h.hp (k + 2) x.1 x.2 hk).1
      omega
  exact hn q' g1 ρ' H' _ w' (hX.put hdn hv)
theorem firstCells_str {H : Hp} {s : List Nat} : firstCells H 1 s.length (.str s) = some (bytesAV s) := by
  show iteB (Nat.beq 1 1) (ob (takeL s.length s) fun r => mapO byteAV r) none = _
  rw [show Nat.beq 1 1 = true from rfl, iteB_true, takeL_ok s.length s (Nat.le_refl _), List.take_length]
  show mapO byteAV s = _
  induction s with
  | nil => rfl
  | cons c s ih =>
    show ob (byteAV c) (fun b => ob (mapO byteAV s) fun r => some (b :: r)) = _
    rw [ih]; rfl
theorem en_14 : enterOK Tryz.prog 14 = true := by kernel_rfl
theorem en_16 : enterOK Tryz.prog 16 = true := by kernel_rfl
noncomputable abbrev c16 : Code := codeOf Tryz.f16
/-- bytes.text. -/
theorem text_spec (p q : Nat) (s : List Nat) (bs : List Nat) (c : Cap) (hl : bs.length + 8 + s.length ≤ 67108864) (hcap : CapOK 1 bs.length c) (hpq : p ≠ q) (hp : p < H.next) (hq : q < H.next) (hcp : Content (H.fn p) [.slice q 0 bs.length c]) (hcq : Content (H.fn q) (bytesAV bs)) : Spec Tryz.prog 16 [.ptr p 0, .str s] H (BtR p q (bs ++ Img.beN 8 s.length ++ s) H) := by
  refine spec_body 15 Tryz.func16 rfl Tryz.ntmps16 (by simp) (fun b => b = p ∨ b = q) [(p, [.slice q 0 bs.length c]), (q, bytesAV bs)] (two_hp (P1 := fun b cs => b < H.next ∧ Content (H.fn b) cs ∧ (b = p ∨ b = q)) ⟨hp, hcp, .inl rfl⟩ ⟨hq, hcq, .inr rfl⟩) (two_ds hpq) fun ρ w a hX => ?_
  refine wp_seq (wp_region ?_)
  refine sx_q _ _ _ rfl rfl rfl (by decide) hX rfl rfl fun a hX => ?_
  refine sx_q _ _ _ rfl rfl rfl (by decide) hX rfl rfl fun a hX => ?_
  refine sx_q _ _ (.int .i64 (s.length : Int)) rfl rfl rfl (by decide) hX rfl (hop_len_str Tryz.underlying9 rfl) fun a hX => ?_
  refine sx_bt _ _ 14 [.ptr p 0, .int .i64 (s.length : Int)] (bs' := bs ++ Img.beN 8 s.length) rfl rfl rfl (by decide) hX (hop_callf en_14 rfl) (fun h1 h2 h3 h4 h5 => num_spec p q s.length bs c (by omega) hcap h1 h2 h3 h4 h5) fun q1 hq1 ρ H a w hX => ?_
  have hlen : (bs ++ Img.beN 8 s.length).length = bs.length + 8 := by rw [List.length_append, Img.beN_len]
  refine wp_region ?_
  refine sx_q _ _ _ rfl rfl rfl (by decide) hX rfl rfl fun a hX => ?_
  refine sx_q _ _ _ rfl rfl rfl (by decide) hX rfl rfl fun a hX => ?_
  refine sx_q _ _ _ rfl rfl rfl (by decide) hX rfl rfl fun a hX => ?_
  refine sx_q _ _ (.slice q1 0 (bs ++ Img.beN 8 s.length).length (.opn 1)) rfl rfl rfl (by decide) hX rfl (hop_load ty_49 rfl (hX.ld 0 rfl rfl)) fun a hX => ?_
  refine sx_q _ _ _ rfl rfl rfl (by decide) hX rfl rfl fun a hX => ?_
  rcases Nat.eq_zero_or_pos s.length with hs | hs
  · have hs0 : s = [] := List.length_eq_zero_iff.1 hs
    subst hs0
    refine sx_v _ _ (.slice q1 0 (bs ++ Img.beN 8 ([] : List Nat).length).length (.opn 1)) rfl rfl rfl (by decide) hX (hop_app_none el_49 Tryz.underlying9 rfl gr_5 rfl rfl rfl (by omega) rfl) fun ρ a w hX => ?_
    refine sx_q _ _ _ rfl rfl rfl (by decide) hX rfl rfl fun a hX => ?_
    refine sx_st _ 0 p 0 _ [.slice q1 0 (bs ++ Img.beN 8 ([] : List Nat).length).length (.opn 1)] rfl rfl rfl hX rfl (by simp) (hop_storeN sz_49 rfl rfl rfl rfl) fun ρ H w hX => ?_
    refine sx_end0 hX rfl ⟨rfl, q1, by omega, (hX.hp 1 q1 _ rfl).1, ?_, ?_, fun c hc h1 h2 => hX.kp c hc fun h => h.elim h1 h2⟩
    · rw [List.append_nil]; exact hX.has 0 rfl
    · rw [List.append_nil]; exact hX.has 1 rfl
  · have hNx := hX.next_le
    have hlc : (bs ++ Img.beN 8 s.length ++ s).length = (bs ++ Img.beN 8 s.length).length + s.length := List.length_append
    have hbc : bytesAV (bs ++ Img.beN 8 s.length) ++ bytesAV s = bytesAV (bs ++ Img.beN 8 s.length ++ s) := by simp [bytesAV]
    refine sx_appC _ _ 1 q1 (bs ++ Img.beN 8 s.length).length s.length (.opn 1) (bytesAV (bs ++ Img.beN 8 s.length)) (bytesAV s) rfl rfl rfl (by decide) hX rfl el_49 Tryz.underlying9 rfl gr_5 (.inl rfl) rfl rfl rfl (by simp [bytesAV]) (congrArg some (lenL_zero s)) (by omega) (by omega) firstCells_str (by omega) fun ρ H2 a w hX => ?_
    rw [hbc, ← hlc] at hX
    refine sx_q _ _ _ rfl rfl rfl (by decide) hX rfl rfl fun a hX => ?_
    refine sx_st _ 0 p 0 _ [.slice H.next 0 (bs ++ Img.beN 8 s.length ++ s).length (.opn 1)] rfl rfl rfl hX rfl (by simp) (hop_storeN sz_49 rfl rfl rfl rfl) fun ρ H3 w hX => ?_
    refine sx_end0 hX rfl ⟨rfl, H.next, hNx, (hX.hp 1 H.next _ rfl).1, hX.has 0 rfl, hX.has 1 rfl, fun c hc h1 h2 => hX.kp c hc fun h => h.elim h1 h2⟩
end Go.Vex
