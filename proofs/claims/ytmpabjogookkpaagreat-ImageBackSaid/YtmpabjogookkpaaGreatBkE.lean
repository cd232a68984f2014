/-
  An image as bytes; a reader of bytes.
  No condition.
-/
import Derived.Test.YtmpabjogookkpaaGreatBkD
set_option linter.unusedVariables false
namespace Go.Img
def hdr : List Nat := [116, 117, 114, 110, 115, 116, 105, 108, 101, 32, 49, 10]
def encC (l : List (Int × Int)) : List Nat := (l.map fun p => beN 8 p.1 ++ beN 8 p.2).flatten
def encR (l : List (List Op)) : List Nat := (l.map fun r => beN 8 (encL r).length ++ encL r).flatten
def encB (m : Im) : List Nat := hdr ++ beN 8 m.mem ++ beN 8 m.cells.length ++ encC m.cells ++ beN 8 m.code.length ++ encR m.code
theorem encC_snoc {l : List (Int × Int)} {i : Nat} {p : Int × Int} (h : l[i]? = some p) : encC (l.take (i + 1)) = encC (l.take i) ++ beN 8 p.1 ++ beN 8 p.2 := by
  rw [List.take_add_one, h]; unfold encC; simp
theorem encR_snoc {l : List (List Op)} {i : Nat} {r : List Op} (h : l[i]? = some r) : encR (l.take (i + 1)) = encR (l.take i) ++ beN 8 (encL r).length ++ encL r := by
  rw [List.take_add_one, h]; unfold encR; simp
theorem encC_pre {l : List (Int × Int)} (i : Nat) : (encC (l.take i)).length ≤ (encC l).length := by
  have : encC l = encC (l.take i) ++ encC (l.drop i) := by unfold encC; rw [← List.flatten_append, ← List.map_append, List.take_append_drop]
  rw [this, List.length_append]; omega
theorem encR_pre {l : List (List Op)} (i : Nat) : (encR (l.take i)).length ≤ (encR l).length := by
  have : encR l = encR (l.take i) ++ encR (l.drop i) := by unfold encR; rw [← List.flatten_append, ← List.map_append, List.take_append_drop]
  rw [this, List.length_append]; omega
end Go.Img
namespace Go.Vex
open Go.Proofs
set_option maxRecDepth 100000
theorem zc_49 : zeroCells Tryz.prog 49 = some [.nils] := by kernel_rfl
noncomputable abbrev c7 : Code := codeOf Tryz.f7
noncomputable abbrev e1 : Code := seqR c7
noncomputable abbrev e4 : Code := seqR e1
noncomputable abbrev e5 : Code := seqR e4
noncomputable abbrev e6 : Code := seqR e5
noncomputable abbrev e7 : Code := seqR e6
noncomputable abbrev e13 : Code := seqR e7
noncomputable abbrev e14 : Code := seqR e13
noncomputable abbrev e22 : Code := seqR e14
noncomputable abbrev l7c : Code := loopB (blkB (seqR (seqL e7)))
noncomputable abbrev l7r : Code := loopB (blkB (seqR (seqL e14)))
variable {ρ ρ0 : Rho} {H H0 : Hp} {w w0 : World} {a : Act} {Q : Exit → Act → World → Prop}
abbrev S7 (b p : Nat) : List (Nat × AV) := [(1, .ptr b 0), (5, .ptr p 0)]
abbrev Y7 (p q b : Nat) (bs : List Nat) (c : Cap) (Vc Ve : AV) (m : Img.Im) : List (Nat × List AV) := [(p, [.slice q 0 bs.length c]), (q, bytesAV bs), (b, cellsIm Vc Ve m)]
/-- The cells are written. -/
theorem ienc_c (m : Img.Im) (Vc Ve : AV) (hm : Img.WfI m) (hV : SlCells H0 Ve m.cells) (b p : Nat) (b0 : List Nat) (hsz : (b0 ++ Img.encC m.cells).length ≤ 67108864) : ∀ (k i : Nat), i + k = m.cells.length → ∀ (q : Nat) (c : Cap) (ρ : Rho) (H : Hp) (a : Act) (w : World), c = .opn 1 →
    Sx Tryz.prog ρ0 H0 w0 64 No (Y7 p q b (b0 ++ Img.encC (m.cells.take i)) c Vc Ve m) (listF ((27, Ve) :: (28, .int .i64 (m.cells.length : Int)) :: (29, .int .i64 (i : Int)) :: S7 b p)) ρ H a w →
    (∀ q ρ H a w, Sx Tryz.prog ρ0 H0 w0 64 No (Y7 p q b (b0 ++ Img.encC m.cells) (.opn 1) Vc Ve m) (listF (S7 b p)) ρ H a w → Q .normal a w) → LoopWp Tryz.prog l7c (Exit.inBlock 0 Q) a w := by
  intro k
  induction k with
  | zero =>
    intro i hi q c ρ H a w hcc hX K
    have hlt : ¬ ((i : Int) < (m.cells.length : Int)) := by omega
    refine LoopWp.unroll (wp_seq (wp_region ?_))
    refine sx_q _ _ _ rfl rfl rfl (by decide) hX rfl (by first | exact hop_bin rfl rfl (bin_lss (by first | exact decide_eq_true (by assumption) | exact decide_eq_false (by assumption))) | rfl) fun a hX => ?_
    refine wp_seq (sx_false hX rfl (wp_exit ?_))
    refine then_exit (then_exit (inBlock_hit ?_))
    rw [List.take_of_length_le (by omega), hcc] at hX
    exact K q ρ H _ w (hX.slots _ ⟨rfl, rfl, trivial⟩)
  | succ k ih =>
    intro i hi q c ρ H a w hcc hX K
    have hlt : (i : Int) < (m.cells.length : Int) := by omega
    have hi2 : i < m.cells.length := by omega
    obtain ⟨pr, hp⟩ : ∃ pr, m.cells[i]? = some pr := ⟨_, List.getElem?_eq_getElem hi2⟩
    have hcl := hm.2.2
    rcases hV with ⟨_, hn⟩ | ⟨bl, ol, cl, cs, rfl, hltb, hc, hrow⟩
    · rw [hn] at hi2; simp at hi2
    obtain ⟨hr1, hr2⟩ := hrow i pr hp
    have hsz2 : (b0 ++ Img.encC (m.cells.take i) ++ Img.beN 8 pr.1 ++ Img.beN 8 pr.2).length ≤ 67108864 := by
      have h1 := Img.encC_pre (l := m.cells) (i + 1)
      rw [Img.encC_snoc hp] at h1
      simp only [List.length_append] at hsz h1 ⊢
      omega
    simp only [List.length_append, Img.beN_len] at hsz2
    refine LoopWp.unroll (wp_seq (wp_region ?_))
    refine sx_q _ _ _ rfl rfl rfl (by decide) hX rfl (by first | exact hop_bin rfl rfl (bin_lss (by first | exact decide_eq_true (by assumption) | exact decide_eq_false (by assumption))) | rfl) fun a hX => ?_
    refine wp_seq (sx_true hX rfl (wp_skip ?_))
    refine wp_seq (wp_block (wp_seq (wp_region ?_)))
    refine sx_q _ _ (.ptr bl (ol + i * 2)) rfl rfl rfl (by decide) hX rfl (hop_index ix_23 rfl rfl hi2) fun a hX => ?_
    refine sx_q _ _ (.agg [.int .i64 pr.1, .int .i64 pr.2]) rfl rfl rfl (by decide) hX rfl (hop_loadN ty_52 rfl ((hX.old hc hltb (fun h => h)).loadN hr1 hr2)) fun a hX => ?_
    refine sx_new _ _ (fun b => .ptr b 0) _ rfl rfl rfl (by decide) hX (hop_alloc zc_52) fun b2 ρ H a w hX => ?_
    refine sx_st _ 3 b2 0 _ [.int .i64 pr.1, .int .i64 pr.2] rfl rfl rfl hX rfl (by simp) (hop_storeN sz_52 rfl rfl rfl rfl) fun ρ H w hX => ?_
    refine wp_seq (wp_region ?_)
    refine sx_q _ _ _ rfl rfl rfl (by decide) hX rfl (hop_field' fz_52_0 rfl) fun a hX => ?_
    refine sx_q _ _ (.int .i64 pr.1) rfl rfl rfl (by decide) hX rfl (hop_load ty_3 rfl (hX.ld 3 rfl rfl)) fun a hX => ?_
    refine sx_bt _ _ 14 [.ptr p 0, .int .i64 pr.1] (bs' := b0 ++ Img.encC (m.cells.take i) ++ Img.beN 8 pr.1) rfl rfl rfl (by decide) hX (hop_callf en_14 rfl) (fun h1 h2 h3 h4 h5 => num_spec p q pr.1 _ c (by simp only [List.length_append]; omega) (.inl hcc) h1 h2 h3 h4 h5) fun q1 hq1 ρ H a w hX => ?_
    refine wp_region ?_
    refine sx_q _ _ _ rfl rfl rfl (by decide) hX rfl (hop_field' fz_52_1 rfl) fun a hX => ?_
    refine sx_q _ _ (.int .i64 pr.2) rfl rfl rfl (by decide) hX rfl (hop_load ty_2 rfl (hX.ld 3 rfl rfl)) fun a hX => ?_
    refine sx_bt _ _ 14 [.ptr p 0, .int .i64 pr.2] (bs' := b0 ++ Img.encC (m.cells.take i) ++ Img.beN 8 pr.1 ++ Img.beN 8 pr.2) rfl rfl rfl (by decide) hX (hop_callf en_14 rfl) (fun h1 h2 h3 h4 h5 => num_spec p q1 pr.2 _ _ (by simp only [List.length_append, Img.beN_len]; omega) (.inl rfl) h1 h2 h3 h4 h5) fun q2 hq2 ρ H a w hX => ?_
    show ((seqR (seqR (seqR l7c))).wp _ _ _ _)
    refine wp_region ?_
    have e2 : IntKind.i64.wrap ((i : Int) + Int.ofNat 1) = ((i + 1 : Nat) : Int) := by rw [wrap_i64]; unfold Img.wrapI; show ((i : Int) + 1 + _) % _ - _ = _; omega
    refine sx_q _ _ (.int .i64 ((i + 1 : Nat) : Int)) rfl rfl rfl (by decide) hX rfl (by rw [← e2]; exact hop_bin rfl rfl bin_add) fun a hX => ?_
    refine sx_q _ _ _ rfl rfl rfl (by decide) hX rfl rfl fun a hX => ?_
    have hE : b0 ++ Img.encC (m.cells.take i) ++ Img.beN 8 pr.1 ++ Img.beN 8 pr.2 = b0 ++ Img.encC (m.cells.take (i + 1)) := by rw [Img.encC_snoc hp]; simp only [List.append_assoc]
    rw [hE] at hX
    exact ih (i + 1) (by omega) q2 (.opn 1) ρ H _ w rfl ((hX.keep3 0 1 2 (by decide) (by decide) (by decide) rfl rfl rfl).slots _ ⟨rfl, rfl, rfl, rfl, rfl, trivial⟩) K
end Go.Vex
namespace Go.Img
def RowsOK (c : List (List Op)) : Prop := ∀ l ∈ c, l.length ≤ 262144 ∧ l.all okB = true
end Go.Img
namespace Go.Vex
open Go.Proofs
set_option maxRecDepth 100000
theorem en_15 : enterOK Tryz.prog 15 = true := by kernel_rfl
theorem en_13 : enterOK Tryz.prog 13 = true := by kernel_rfl
variable {ρ ρ0 : Rho} {H H0 : Hp} {w w0 : World} {a : Act} {Q : Exit → Act → World → Prop}
/-- The rows are written. -/
theorem ienc_r (m : Img.Im) (Vc Ve : AV) (hm : Img.WfI m) (hok : Img.RowsOK m.code) (hV : SlRows H0 Vc m.code) (b p : Nat) (b0 : List Nat) (hsz : (b0 ++ Img.encR m.code).length ≤ 67108864) : ∀ (k i : Nat), i + k = m.code.length → ∀ (q : Nat) (c : Cap) (ρ : Rho) (H : Hp) (a : Act) (w : World), c = .opn 1 →
    Sx Tryz.prog ρ0 H0 w0 64 No (Y7 p q b (b0 ++ Img.encR (m.code.take i)) c Vc Ve m) (listF ((45, Vc) :: (46, .int .i64 (m.code.length : Int)) :: (47, .int .i64 (i : Int)) :: S7 b p)) ρ H a w →
    (∀ q ρ H a w, Sx Tryz.prog ρ0 H0 w0 64 No (Y7 p q b (b0 ++ Img.encR m.code) (.opn 1) Vc Ve m) (listF (S7 b p)) ρ H a w → Q .normal a w) → LoopWp Tryz.prog l7r (Exit.inBlock 2 Q) a w := by
  intro k
  induction k with
  | zero =>
    intro i hi q c ρ H a w hcc hX K
    have hlt : ¬ ((i : Int) < (m.code.length : Int)) := by omega
    refine LoopWp.unroll (wp_seq (wp_region ?_))
    refine sx_q _ _ _ rfl rfl rfl (by decide) hX rfl (by first | exact hop_bin rfl rfl (bin_lss (by first | exact decide_eq_true (by assumption) | exact decide_eq_false (by assumption))) | rfl) fun a hX => ?_
    refine wp_seq (sx_false hX rfl (wp_exit ?_))
    refine then_exit (then_exit (inBlock_hit ?_))
    rw [List.take_of_length_le (by omega), hcc] at hX
    exact K q ρ H _ w (hX.slots _ ⟨rfl, rfl, trivial⟩)
  | succ k ih =>
    intro i hi q c ρ H a w hcc hX K
    have hlt : (i : Int) < (m.code.length : Int) := by omega
    have hi2 : i < m.code.length := by omega
    obtain ⟨r, hp⟩ : ∃ r, m.code[i]? = some r := ⟨_, List.getElem?_eq_getElem hi2⟩
    have hcl := hm.2.1
    have hrm := List.mem_of_getElem? hp
    obtain ⟨hr262, hrok⟩ := hok r hrm
    have hrw := (hm.1 r hrm).1
    rcases hV with ⟨_, hn⟩ | ⟨bl, ol, cl, cs, rfl, hltb, hc, hrow⟩
    · rw [hn] at hi2; simp at hi2
    obtain ⟨Vl, hv, hVl⟩ := hrow i r hp
    have henc : encAV r = .tup [.str (Img.encL r), .int .i64 0] := by unfold encAV; rw [if_neg (by omega), hrok]; rfl
    have hsz2 : (b0 ++ Img.encR (m.code.take i) ++ Img.beN 8 (Img.encL r).length ++ Img.encL r).length ≤ 67108864 := by
      have h1 := Img.encR_pre (l := m.code) (i + 1)
      rw [Img.encR_snoc hp] at h1
      simp only [List.length_append] at hsz h1 ⊢
      omega
    simp only [List.length_append, Img.beN_len] at hsz2
    refine LoopWp.unroll (wp_seq (wp_region ?_))
    refine sx_q _ _ _ rfl rfl rfl (by decide) hX rfl (by first | exact hop_bin rfl rfl (bin_lss (by first | exact decide_eq_true (by assumption) | exact decide_eq_false (by assumption))) | rfl) fun a hX => ?_
    refine wp_seq (sx_true hX rfl (wp_skip ?_))
    refine wp_seq (wp_block (wp_seq (wp_region ?_)))
    refine sx_q _ _ (.ptr bl (ol + i * 1)) rfl rfl rfl (by decide) hX rfl (hop_index ix_22 rfl rfl hi2) fun a hX => ?_
    refine sx_q _ _ Vl rfl rfl rfl (by decide) hX rfl (hop_load ty_45 rfl ((hX.old hc hltb (fun h => h)).load1 hv)) fun a hX => ?_
    refine sx_q _ _ _ rfl rfl rfl (by decide) hX rfl rfl fun a hX => ?_
    refine wp_seq (wp_region ?_)
    refine sx_q _ _ _ rfl rfl rfl (by decide) hX rfl rfl fun a hX => ?_
    refine sx_pure _ _ 15 [Vl] (encAV r) rfl rfl rfl (by decide) hX (hop_callf en_15 rfl) (enc_spec r hrw Vl (hVl.mono hX.stays hX.next_le)) fun ρ H a w hX => ?_
    rw [henc] at hX
    refine sx_q _ _ _ rfl rfl rfl (by decide) hX rfl rfl fun a hX => ?_
    refine sx_q _ _ _ rfl rfl rfl (by decide) hX rfl rfl fun a hX => ?_
    refine sx_q _ _ _ rfl rfl rfl (by decide) hX rfl rfl fun a hX => ?_
    refine sx_q _ _ _ rfl rfl rfl (by decide) hX rfl rfl fun a hX => ?_
    refine sx_q _ _ _ rfl rfl rfl (by decide) hX rfl rfl fun a hX => ?_
    refine wp_seq (wp_seq (wp_region ?_))
    refine sx_q _ _ _ rfl rfl rfl (by decide) hX rfl rfl fun a hX => ?_
    refine sx_q _ _ (.bool false) rfl rfl rfl (by decide) hX rfl rfl fun a hX => ?_
    refine sx_false hX rfl (wp_skip ?_)
    refine wp_region ?_
    refine sx_q _ _ _ rfl rfl rfl (by decide) hX rfl rfl fun a hX => ?_
    refine sx_bt _ _ 16 [.ptr p 0, .str (Img.encL r)] (bs' := b0 ++ Img.encR (m.code.take i) ++ Img.beN 8 (Img.encL r).length ++ Img.encL r) rfl rfl rfl (by decide) hX (hop_callf en_16 rfl) (fun h1 h2 h3 h4 h5 => text_spec p q (Img.encL r) _ c (by simp only [List.length_append]; omega) (.inl hcc) h1 h2 h3 h4 h5) fun q1 hq1 ρ H a w hX => ?_
    show ((seqR (seqR (seqR l7r))).wp _ _ _ _)
    refine wp_region ?_
    have e2 : IntKind.i64.wrap ((i : Int) + Int.ofNat 1) = ((i + 1 : Nat) : Int) := by rw [wrap_i64]; unfold Img.wrapI; show ((i : Int) + 1 + _) % _ - _ = _; omega
    refine sx_q _ _ (.int .i64 ((i + 1 : Nat) : Int)) rfl rfl rfl (by decide) hX rfl (by rw [← e2]; exact hop_bin rfl rfl bin_add) fun a hX => ?_
    refine sx_q _ _ _ rfl rfl rfl (by decide) hX rfl rfl fun a hX => ?_
    have hE : b0 ++ Img.encR (m.code.take i) ++ Img.beN 8 (Img.encL r).length ++ Img.encL r = b0 ++ Img.encR (m.code.take (i + 1)) := by rw [Img.encR_snoc hp]; simp only [List.append_assoc]
    rw [hE] at hX
    exact ih (i + 1) (by omega) q1 (.opn 1) ρ H _ w rfl (hX.slots _ ⟨rfl, rfl, rfl, rfl, rfl, trivial⟩) K
end Go.Vex
namespace Go.Img
theorem tchk_0 {m : Im} (h : tchk m = 0) : limB m = false ∧ 1 ≤ m.mem ∧ badB m = false ∧ cellB m.mem (-1) m.cells = true := by
  unfold tchk at h
  cases h1 : limB m with
  | true => rw [h1] at h; simp at h
  | false =>
    rw [h1] at h
    by_cases h2 : m.mem < 1
    · rw [if_pos h2] at h; simp at h
    · rw [if_neg h2] at h
      cases h3 : badB m with
      | true => rw [h3] at h; simp at h
      | false =>
        rw [h3] at h
        cases h4 : cellB m.mem (-1) m.cells with
        | false => rw [h4] at h; simp at h
        | true => exact ⟨rfl, by omega, rfl, rfl⟩
theorem minS_0 (l : List Op) : 0 ≤ minS l := by unfold minS; split <;> omega
theorem sumS_mem : ∀ (c : List (List Op)) (l : List Op), l ∈ c → minS l ≤ sumS c := by
  intro c
  induction c with
  | nil => intro l h; cases h
  | cons x c ih =>
    intro l h
    have hx := minS_0 x
    have hs : sumS (x :: c) = minS x + sumS c := by unfold sumS; simp
    have hc : 0 ≤ sumS c := by
      clear ih h hs
      induction c with
      | nil => decide
      | cons y c ih => have : sumS (y :: c) = minS y + sumS c := by unfold sumS; simp
                       have := minS_0 y; omega
    rcases List.mem_cons.1 h with rfl | h
    · omega
    · have := ih l h; omega
theorem tchk_rows {m : Im} (h : tchk m = 0) : RowsOK m.code := by
  obtain ⟨h1, h2, h3, _⟩ := tchk_0 h
  intro l hl
  have hs := sumS_mem m.code l hl
  unfold limB at h1
  simp at h1
  refine ⟨?_, ?_⟩
  · have : minS l ≤ 262144 := by omega
    unfold minS at this
    split at this <;> omega
  · unfold badB at h3
    rw [List.any_eq_false] at h3
    have := h3 l hl
    rw [List.all_eq_true]
    intro o ho
    simp at this
    exact this o ho
end Go.Img
namespace Go.Vex
open Go.Proofs
set_option maxRecDepth 100000
variable {ρ ρ0 : Rho} {H H0 : Hp} {w w0 : World} {a : Act} {Q : Exit → Act → World → Prop}
def iencAV (m : Img.Im) : AV := if Img.tchk m = 0 then .tup [.str (Img.encB m), .int .i64 0] else .tup [.str [], .int .i64 (Img.tchk m)]
theorem encB_lt {m : Img.Im} (hm : Img.WfI m) : ∀ c ∈ Img.encB m, c < 256 := by
  intro c hc
  unfold Img.encB at hc
  simp only [List.mem_append] at hc
  rcases hc with ((((hc | hc) | hc) | hc) | hc) | hc
  · revert c; decide
  · exact Img.beN_lt _ _ c hc
  · exact Img.beN_lt _ _ c hc
  · obtain ⟨x, hx, hcx⟩ := List.mem_flatten.1 hc
    obtain ⟨p, _, rfl⟩ := List.mem_map.1 hx
    rcases List.mem_append.1 hcx with h | h <;> exact Img.beN_lt _ _ c h
  · exact Img.beN_lt _ _ c hc
  · obtain ⟨x, hx, hcx⟩ := List.mem_flatten.1 hc
    obtain ⟨l, hl, rfl⟩ := List.mem_map.1 hx
    rcases List.mem_append.1 hcx with h | h
    · exact Img.beN_lt _ _ c h
    · exact Img.encL_lt (hm.1 l hl).1 c h
theorem hop_convsame {P : Program} {e : Env} {H : Hp} {s el : TypeId} {x : Operand} {b off len : Nat} {c : Cap} {cs : List AV} (hs : P.underlying s = some (.slice el)) (hu : P.underlying el = some (.int .u8)) (hx : e x = some (.slice b off len c)) (hc : Content (H.fn b) cs) : opA P (.convert s s x) e H = some (.val (.slice b off len c) H) := by
  show ob (e x) _ = _
  rw [hx]
  show ob (P.underlying s) _ = _
  rw [hs]
  show iteB (Nat.beq s s) (ob (P.underlying el) fun d => ob (isU8 d) fun _ => ob (liveC H b off) fun _ => valH H (.slice b off len c)) none = _
  rw [Nat.beq_refl, iteB_true, hu]
  show ob (liveC H b off) _ = _
  obtain ⟨d, t, e, _⟩ := hc
  show ob (ob (H.obj b) _) _ = _
  rw [Hp.obj_fn, e]
  rfl
/-- image.Encode. -/
theorem ienc_spec (m : Img.Im) (Vc Ve : AV) (hm : Img.WfI m) (hV : SlRows H Vc m.code) (hVe : SlCells H Ve m.cells) (hsz : (Img.encB m).length ≤ 67108864) : Spec Tryz.prog 7 [.agg (cellsIm Vc Ve m)] H (Pure (iencAV m) H) := by
  refine spec_body0 64 Tryz.func7 rfl Tryz.ntmps7 (by simp) fun ρ w a hX => ?_
  refine wp_seq (wp_region ?_)
  refine sx_new _ _ (fun b => .ptr b 0) _ rfl rfl rfl (by decide) hX (hop_box rfl rfl) fun b ρ H1 a w hX => ?_
  refine sx_q _ _ _ rfl rfl rfl (by decide) hX rfl rfl fun a hX => ?_
  refine sx_q _ _ _ rfl rfl rfl (by decide) hX rfl rfl fun a hX => ?_
  refine wp_seq (wp_seq (wp_region ?_))
  refine sx_q _ _ (.agg (cellsIm Vc Ve m)) rfl rfl rfl (by decide) hX rfl (hop_loadN ty_25 rfl (hX.ldN 0 rfl (by simp [cellsIm]) rfl)) fun a hX => ?_
  refine sx_pure _ _ 13 [.agg (cellsIm Vc Ve m)] (.int .i64 (Img.tchk m)) rfl rfl rfl (by decide) hX (hop_callf en_13 rfl) (tso_spec m Vc Ve hm (hV.mono hX.stays hX.next_le) (hVe.mono hX.stays hX.next_le)) fun ρ H1 a w hX => ?_
  refine sx_q _ _ _ rfl rfl rfl (by decide) hX rfl rfl fun a hX => ?_
  refine wp_seq (wp_region ?_)
  refine sx_q _ _ _ rfl rfl rfl (by decide) hX rfl rfl fun a hX => ?_
  by_cases h0 : Img.tchk m = 0
  · refine sx_q _ _ (.bool false) rfl rfl rfl (by decide) hX rfl (hop_bin rfl rfl (bin_neq_f h0)) fun a hX => ?_
    refine sx_false hX rfl (wp_skip ?_)
    show e4.wp _ _ _ _
    have hX := hX.slots [(1, .ptr b 0)] ⟨rfl, trivial⟩
    have hX := hX.keep1 0 (p := (b, cellsIm Vc Ve m)) rfl
    have hB : Img.encB m = Img.hdr ++ Img.beN 8 m.mem ++ Img.beN 8 m.cells.length ++ Img.encC m.cells ++ Img.beN 8 m.code.length ++ Img.encR m.code := rfl
    have hhl : Img.hdr.length = 12 := rfl
    have hsz0 := hsz
    rw [hB] at hsz0
    simp only [List.length_append, Img.beN_len, hhl] at hsz0
    refine wp_seq (wp_region ?_)
    refine sx_new _ _ (fun b => .slice b 0 12 (.fix 12)) (bytesAV Img.hdr) rfl rfl rfl (by decide) hX (hop_bslice el_49 sz_5 zc_5 rfl rfl rfl (by decide)) fun q ρ H1 a w hX => ?_
    refine sx_v _ _ (.slice q 0 12 (.fix 12)) rfl rfl rfl (by decide) hX (hop_convsame Tryz.underlying49 Tryz.underlying5 rfl (hX.has 1 rfl)) fun ρ a w hX => ?_
    refine sx_new _ _ (fun b => .ptr b 0) _ rfl rfl rfl (by decide) hX (hop_alloc zc_49) fun p ρ H1 a w hX => ?_
    refine sx_st _ 2 p 0 _ [.slice q 0 12 (.fix 12)] rfl rfl rfl hX rfl (by simp) (hop_storeN sz_49 rfl rfl rfl rfl) fun ρ H1 w hX => ?_
    have hX := hX.keep3 2 1 0 (by decide) (by decide) (by decide) (p := (p, [.slice q 0 Img.hdr.length (.fix 12)])) (q := (q, bytesAV Img.hdr)) (r := (b, cellsIm Vc Ve m)) rfl rfl rfl
    have hcap : CapOK 1 Img.hdr.length (.fix 12) := .inr rfl
    have hX := hX.slots (S7 b p) ⟨rfl, rfl, trivial⟩
    refine wp_seq (wp_region ?_)
    refine sx_q _ _ _ rfl rfl rfl (by decide) hX rfl (hop_field' fz_25_1 rfl) fun a hX => ?_
    refine sx_q _ _ (.int .i64 m.mem) rfl rfl rfl (by decide) hX rfl (hop_load ty_3 rfl (hX.ld 2 rfl rfl)) fun a hX => ?_
    refine sx_bt _ _ 14 [.ptr p 0, .int .i64 m.mem] (bs' := Img.hdr ++ Img.beN 8 m.mem) rfl rfl rfl (by decide) hX (hop_callf en_14 rfl) (fun h1 h2 h3 h4 h5 => num_spec p q m.mem _ _ (by rw [hhl]; omega) hcap h1 h2 h3 h4 h5) fun q1 hq1 ρ H1 a w hX => ?_
    refine wp_seq (wp_region ?_)
    refine sx_q _ _ _ rfl rfl rfl (by decide) hX rfl (hop_field' fz_25_2 rfl) fun a hX => ?_
    refine sx_q _ _ Ve rfl rfl rfl (by decide) hX rfl (hop_load ty_23 rfl (hX.ld 2 rfl rfl)) fun a hX => ?_
    refine sx_q _ _ (.int .i64 (m.cells.length : Int)) rfl rfl rfl (by decide) hX rfl (hop_lenCells hVe rfl) fun a hX => ?_
    refine sx_bt _ _ 14 [.ptr p 0, .int .i64 (m.cells.length : Int)] (bs' := Img.hdr ++ Img.beN 8 m.mem ++ Img.beN 8 m.cells.length) rfl rfl rfl (by decide) hX (hop_callf en_14 rfl) (fun h1 h2 h3 h4 h5 => num_spec p q1 m.cells.length _ _ (by simp only [List.length_append, Img.beN_len, hhl]; omega) (.inl rfl) h1 h2 h3 h4 h5) fun q2 hq2 ρ H1 a w hX => ?_
    refine wp_seq (wp_seq (wp_region ?_))
    refine sx_q _ _ _ rfl rfl rfl (by decide) hX rfl (hop_field' fz_25_2 rfl) fun a hX => ?_
    refine sx_q _ _ Ve rfl rfl rfl (by decide) hX rfl (hop_load ty_23 rfl (hX.ld 2 rfl rfl)) fun a hX => ?_
    refine sx_q _ _ (.int .i64 (m.cells.length : Int)) rfl rfl rfl (by decide) hX rfl (hop_lenCells hVe rfl) fun a hX => ?_
    refine sx_q _ _ _ rfl rfl rfl (by decide) hX rfl rfl fun a hX => ?_
    refine wp_block (LoopWp.wp ?_)
    have hX0 : Img.hdr ++ Img.beN 8 m.mem ++ Img.beN 8 m.cells.length = Img.hdr ++ Img.beN 8 m.mem ++ Img.beN 8 m.cells.length ++ Img.encC (m.cells.take 0) := by simp [Img.encC]
    rw [hX0] at hX
    refine ienc_c m Vc Ve hm hVe b p _ (by simp only [List.length_append, Img.beN_len, hhl]; omega) m.cells.length 0 (by omega) q2 _ ρ H1 _ w rfl (hX.slots _ ⟨rfl, rfl, rfl, rfl, rfl, trivial⟩) fun q3 ρ H1 a w hX => ?_
    show e13.wp _ _ _ _
    refine wp_seq (wp_region ?_)
    refine sx_q _ _ _ rfl rfl rfl (by decide) hX rfl (hop_field' fz_25_0 rfl) fun a hX => ?_
    refine sx_q _ _ Vc rfl rfl rfl (by decide) hX rfl (hop_load ty_22 rfl (hX.ld 2 rfl rfl)) fun a hX => ?_
    refine sx_q _ _ (.int .i64 (m.code.length : Int)) rfl rfl rfl (by decide) hX rfl (hop_lenRows hV rfl) fun a hX => ?_
    refine sx_bt _ _ 14 [.ptr p 0, .int .i64 (m.code.length : Int)] (bs' := Img.hdr ++ Img.beN 8 m.mem ++ Img.beN 8 m.cells.length ++ Img.encC m.cells ++ Img.beN 8 m.code.length) rfl rfl rfl (by decide) hX (hop_callf en_14 rfl) (fun h1 h2 h3 h4 h5 => num_spec p q3 m.code.length _ _ (by simp only [List.length_append, Img.beN_len, hhl]; omega) (.inl rfl) h1 h2 h3 h4 h5) fun q4 hq4 ρ H1 a w hX => ?_
    refine wp_seq (wp_seq (wp_region ?_))
    refine sx_q _ _ _ rfl rfl rfl (by decide) hX rfl (hop_field' fz_25_0 rfl) fun a hX => ?_
    refine sx_q _ _ Vc rfl rfl rfl (by decide) hX rfl (hop_load ty_22 rfl (hX.ld 2 rfl rfl)) fun a hX => ?_
    refine sx_q _ _ (.int .i64 (m.code.length : Int)) rfl rfl rfl (by decide) hX rfl (hop_lenRows hV rfl) fun a hX => ?_
    refine sx_q _ _ _ rfl rfl rfl (by decide) hX rfl rfl fun a hX => ?_
    refine wp_block (LoopWp.wp ?_)
    have hX1 : Img.hdr ++ Img.beN 8 m.mem ++ Img.beN 8 m.cells.length ++ Img.encC m.cells ++ Img.beN 8 m.code.length = Img.hdr ++ Img.beN 8 m.mem ++ Img.beN 8 m.cells.length ++ Img.encC m.cells ++ Img.beN 8 m.code.length ++ Img.encR (m.code.take 0) := by simp [Img.encR]
    rw [hX1] at hX
    refine ienc_r m Vc Ve hm (Img.tchk_rows h0) hV b p _ (by simp only [List.length_append, Img.beN_len, hhl]; omega) m.code.length 0 (by omega) q4 _ ρ H1 _ w rfl (hX.slots _ ⟨rfl, rfl, rfl, rfl, rfl, trivial⟩) fun q5 ρ H1 a w hX => ?_
    show e22.wp _ _ _ _
    rw [← hB] at hX
    refine wp_seq (wp_region ?_)
    refine sx_q _ _ (.slice q5 0 (Img.encB m).length (.opn 1)) rfl rfl rfl (by decide) hX rfl (hop_load ty_49 rfl (hX.ld 0 rfl rfl)) fun a hX => ?_
    refine sx_v _ _ (.str (Img.encB m)) rfl rfl rfl (by decide) hX (hop_str Tryz.underlying49 Tryz.underlying9 Tryz.underlying5 rfl (hX.ldN 1 rfl (by simp [bytesAV]) (by rw [List.drop_zero]; exact List.take_of_length_le (by simp [bytesAV]))) (mapO_bytes (encB_lt hm))) fun ρ a w hX => ?_
    refine sx_q _ _ _ rfl rfl rfl (by decide) hX rfl rfl fun a hX => ?_
    refine sx_q _ _ _ rfl rfl rfl (by decide) hX rfl rfl fun a hX => ?_
    refine sx_ret2 2 3 _ _ hX rfl rfl rfl ?_ id
    have e : iencAV m = .tup [.str (Img.encB m), .int .i64 0] := by unfold iencAV; rw [if_pos h0]
    rw [e]; exact hX.pure _
  · refine sx_q _ _ (.bool true) rfl rfl rfl (by decide) hX rfl (hop_bin rfl rfl (bin_neq_t h0)) fun a hX => ?_
    refine sx_true hX rfl (wp_seq (wp_region ?_))
    refine sx_q _ _ _ rfl rfl rfl (by decide) hX rfl rfl fun a hX => ?_
    refine sx_q _ _ _ rfl rfl rfl (by decide) hX rfl rfl fun a hX => ?_
    refine sx_q _ _ _ rfl rfl rfl (by decide) hX rfl rfl fun a hX => ?_
    refine sx_ret2 2 3 _ _ hX rfl rfl rfl ?_ id
    have e : iencAV m = .tup [.str [], .int .i64 (Img.tchk m)] := by unfold iencAV; rw [if_neg h0]
    rw [e]; exact hX.pure _
end Go.Vex
namespace Go.Vex
open Go.Proofs
set_option maxRecDepth 100000
theorem hop_slice_hstr {P : Program} {e : Env} {H : Hp} {t : TypeId} {x y : Operand} {j : Nat} {k : IntKind} {s : List Nat} (ht : P.underlying t = some .string) (hx : e x = some (.str s)) (hy : e y = some (.int k (.ofNat j))) (hj : j ≤ s.length) : opA P (.slice t x none (some y) none) e H = some (.val (.str (s.take j)) H) := by
  show ob (e x) _ = _
  rw [hx]
  show ob (P.underlying t) _ = _
  rw [ht]
  show ob (iteB true (ob (some (lenL s 0)) fun m => ob (ob (e y) AV.asNat) fun h => ob (some 0) fun l => iteB (Nat.ble l h) (iteB (Nat.ble h m) (iteB (Nat.ble m (lenL s 0)) (some (l, h, m)) none) none) none) none) _ = _
  rw [hy, lenL_zero]
  show ob (iteB (Nat.ble 0 j) (iteB (Nat.ble j s.length) (iteB (Nat.ble s.length s.length) (some (0, j, s.length)) none) none) none) _ = _
  have e1 : Nat.ble j s.length = true := by rw [Nat.ble_eq]; exact hj
  have e2 : Nat.ble s.length s.length = true := by rw [Nat.ble_eq]; exact Nat.le_refl _
  have e3 : Nat.ble 0 j = true := by rw [Nat.ble_eq]; exact Nat.zero_le _
  rw [e1, e2, e3]
  show ob (takeL (Nat.sub j 0) (dropL 0 s)) _ = _
  rw [dropL_eq, List.drop_zero, takeL_ok _ _ (by show j - 0 ≤ _; omega)]
  rfl
noncomputable abbrev c17 : Code := codeOf Tryz.f17
variable {ρ ρ0 : Rho} {H H0 : Hp} {w w0 : World} {a : Act} {Q : Exit → Act → World → Prop} {Wr : Nat → Prop}
/-- A reader's two cells. -/
def cellsRd (s : List Nat) (bad : Bool) : List AV := [.str s, .bool bad]
def takeV (s : List Nat) (bad : Bool) (n : Int) : List Nat × List Nat × Bool := if bad = true ∨ n < 0 ∨ (s.length : Int) < n then ([], s, true) else (s.take n.toNat, s.drop n.toNat, false)
def TakeR (p : Nat) (s : List Nat) (bad : Bool) (n : Int) (H : Hp) : AV → Hp → Prop := Turns p (fun v cs => v = .str (takeV s bad n).1 ∧ cs = cellsRd (takeV s bad n).2.1 (takeV s bad n).2.2) H
theorem turns_of {P : Program} {n : Nat} {F : SlF} {ρ : Rho} {H' : Hp} {p : Nat} {cs : List AV} {Ψ : List (Nat × List AV)} {R : AV → List AV → Prop} {v : AV} (hX : Sx P ρ0 H0 w0 n (fun b => b = p) ((p, cs) :: Ψ) F ρ H' a w) (hR : R v cs) : Turns p R H0 v H' :=
  ⟨cs, hR, hX.has 0 rfl, fun c hc hne => hX.kp c hc hne⟩
theorem one_hp {P1 : Nat → List AV → Prop} {p : Nat} {cp : List AV} (h1 : P1 p cp) : ∀ (k b : Nat) (cs : List AV), [(p, cp)][k]? = some (b, cs) → P1 b cs := by
  intro k b cs hk
  rcases k with _ | k
  · simp at hk; obtain ⟨rfl, rfl⟩ := hk; exact h1
  · simp at hk
theorem one_ds {p : Nat} {cp : List AV} : ∀ (j k b : Nat) (cs cs' : List AV), [(p, cp)][j]? = some (b, cs) → [(p, cp)][k]? = some (b, cs') → j = k := by
  intro j k b cs cs' hj hk
  rcases j with _ | j <;> rcases k with _ | k <;> simp at hj hk <;> rfl
theorem take_bad (p : Nat) (s : List Nat) (bad : Bool) (n : Int) (hbad : bad = true ∨ n < 0 ∨ (s.length : Int) < n) {F : SlF} (hF : F 0 = some (.ptr p 0)) (hX : Sx Tryz.prog ρ0 H0 w0 42 (fun b => b = p) [(p, cellsRd s bad)] F ρ H a w) :
    (condT (seqR (seqL (seqR c17)))).wp Tryz.prog (Exit.then ((seqR (seqR c17)).wp Tryz.prog (bodyPostD Tryz.prog Tryz.f17 (Post ρ0 H0 w0 (TakeR p s bad n H0)))) (bodyPostD Tryz.prog Tryz.f17 (Post ρ0 H0 w0 (TakeR p s bad n H0)))) a w := by
  have e : takeV s bad n = ([], s, true) := by unfold takeV; rw [if_pos hbad]
  have hX := hX.slots [(0, .ptr p 0)] ⟨hF, trivial⟩
  refine wp_seq (wp_region ?_)
  refine sx_q _ _ _ rfl rfl rfl (by decide) hX rfl rfl fun a hX => ?_
  refine sx_q _ _ _ rfl rfl rfl (by decide) hX rfl rfl fun a hX => ?_
  refine sx_q _ _ _ rfl rfl rfl (by decide) hX rfl (hop_field' fz_57_1 rfl) fun a hX => ?_
  refine sx_st _ 0 p 1 _ [.bool true] rfl rfl rfl hX rfl (by simp [cellsRd]) (hop_storeN sz_4 rfl rfl rfl rfl) fun ρ H w hX => ?_
  refine wp_seq (wp_region ?_)
  refine sx_q _ _ _ rfl rfl rfl (by decide) hX rfl rfl fun a hX => ?_
  refine sx_ret1 4 _ hX rfl rfl ?_ id
  refine turns_of hX ⟨?_, ?_⟩
  · rw [e]; rfl
  · rw [e]; rfl
/-- reader.take. -/
theorem take_spec (p : Nat) (s : List Nat) (bad : Bool) (n : Int) (hp : p < H.next) (hc : Content (H.fn p) (cellsRd s bad)) : Spec Tryz.prog 17 [.ptr p 0, .int .i64 n] H (TakeR p s bad n H) := by
  refine spec_body 42 Tryz.func17 rfl Tryz.ntmps17 (by simp) (fun b => b = p) [(p, cellsRd s bad)] (one_hp (P1 := fun b cs => b < H.next ∧ Content (H.fn b) cs ∧ b = p) ⟨hp, hc, rfl⟩) one_ds fun ρ w a hX => ?_
  refine wp_seq (wp_region ?_)
  refine sx_q _ _ _ rfl rfl rfl (by decide) hX rfl rfl fun a hX => ?_
  refine wp_seq (wp_seq (wp_region ?_))
  refine sx_q _ _ _ rfl rfl rfl (by decide) hX rfl rfl fun a hX => ?_
  refine sx_q _ _ _ rfl rfl rfl (by decide) hX rfl rfl fun a hX => ?_
  refine sx_q _ _ _ rfl rfl rfl (by decide) hX rfl (hop_field' fz_57_1 rfl) fun a hX => ?_
  refine sx_q _ _ (.bool bad) rfl rfl rfl (by decide) hX rfl (hop_load ty_4 rfl (hX.ld 0 rfl rfl)) fun a hX => ?_
  rcases bcases bad with rfl | rfl
  · skip
    refine sx_q _ _ (.bool true) rfl rfl rfl (by decide) hX rfl rfl fun a hX => ?_
    refine sx_gf _ _ rfl rfl rfl (by decide) hX rfl fun a hX => ?_
    refine sx_gf _ _ rfl rfl rfl (by decide) hX rfl fun a hX => ?_
    refine sx_q _ _ (.bool true) rfl rfl rfl (by decide) hX rfl rfl fun a hX => ?_
    refine sx_q _ _ (.bool true) rfl rfl rfl (by decide) hX rfl rfl fun a hX => ?_
    refine sx_gf _ _ rfl rfl rfl (by decide) hX rfl fun a hX => ?_
    refine sx_gf _ _ rfl rfl rfl (by decide) hX rfl fun a hX => ?_
    refine sx_gf _ _ rfl rfl rfl (by decide) hX rfl fun a hX => ?_
    refine sx_gf _ _ rfl rfl rfl (by decide) hX rfl fun a hX => ?_
    refine sx_gf _ _ rfl rfl rfl (by decide) hX rfl fun a hX => ?_
    refine sx_gf _ _ rfl rfl rfl (by decide) hX rfl fun a hX => ?_
    refine sx_gf _ _ rfl rfl rfl (by decide) hX rfl fun a hX => ?_
    refine sx_q _ _ (.bool true) rfl rfl rfl (by decide) hX rfl rfl fun a hX => ?_
    refine sx_true hX rfl ?_
    exact take_bad p s true n (.inl rfl) rfl hX
  · skip
    refine sx_q _ _ (.bool false) rfl rfl rfl (by decide) hX rfl rfl fun a hX => ?_
    refine sx_gt _ _ _ rfl rfl rfl (by decide) hX rfl rfl fun a hX => ?_
    by_cases h1 : n < 0
    · refine sx_gt _ _ (.bool true) rfl rfl rfl (by decide) hX rfl (hop_bin rfl rfl (bin_lss (decide_eq_true h1))) fun a hX => ?_
      refine sx_q _ _ (.bool true) rfl rfl rfl (by decide) hX rfl rfl fun a hX => ?_
      refine sx_q _ _ (.bool true) rfl rfl rfl (by decide) hX rfl rfl fun a hX => ?_
      refine sx_gf _ _ rfl rfl rfl (by decide) hX rfl fun a hX => ?_
      refine sx_gf _ _ rfl rfl rfl (by decide) hX rfl fun a hX => ?_
      refine sx_gf _ _ rfl rfl rfl (by decide) hX rfl fun a hX => ?_
      refine sx_gf _ _ rfl rfl rfl (by decide) hX rfl fun a hX => ?_
      refine sx_gf _ _ rfl rfl rfl (by decide) hX rfl fun a hX => ?_
      refine sx_gf _ _ rfl rfl rfl (by decide) hX rfl fun a hX => ?_
      refine sx_gf _ _ rfl rfl rfl (by decide) hX rfl fun a hX => ?_
      refine sx_q _ _ (.bool true) rfl rfl rfl (by decide) hX rfl rfl fun a hX => ?_
      exact sx_true hX rfl (take_bad p s false n (.inr (.inl h1)) rfl hX)
    · refine sx_gt _ _ (.bool false) rfl rfl rfl (by decide) hX rfl (hop_bin rfl rfl (bin_lss (decide_eq_false h1))) fun a hX => ?_
      refine sx_q _ _ (.bool false) rfl rfl rfl (by decide) hX rfl rfl fun a hX => ?_
      refine sx_q _ _ (.bool false) rfl rfl rfl (by decide) hX rfl rfl fun a hX => ?_
      refine sx_gt _ _ _ rfl rfl rfl (by decide) hX rfl rfl fun a hX => ?_
      refine sx_gt _ _ _ rfl rfl rfl (by decide) hX rfl rfl fun a hX => ?_
      refine sx_gt _ _ _ rfl rfl rfl (by decide) hX rfl rfl fun a hX => ?_
      refine sx_gt _ _ _ rfl rfl rfl (by decide) hX rfl (hop_field' fz_57_0 rfl) fun a hX => ?_
      refine sx_gt _ _ (.str s) rfl rfl rfl (by decide) hX rfl (hop_load ty_9 rfl (hX.ld 0 rfl rfl)) fun a hX => ?_
      refine sx_gt _ _ (.int .i64 (.ofNat s.length)) rfl rfl rfl (by decide) hX rfl (hop_len_str Tryz.underlying9 rfl) fun a hX => ?_
      by_cases h2 : (s.length : Int) < n
      · refine sx_gt _ _ (.bool true) rfl rfl rfl (by decide) hX rfl (hop_bin rfl rfl (bin_gtr (decide_eq_true h2))) fun a hX => ?_
        refine sx_q _ _ (.bool true) rfl rfl rfl (by decide) hX rfl rfl fun a hX => ?_
        exact sx_true hX rfl (take_bad p s false n (.inr (.inr h2)) rfl hX)
      · refine sx_gt _ _ (.bool false) rfl rfl rfl (by decide) hX rfl (hop_bin rfl rfl (bin_gtr (decide_eq_false h2))) fun a hX => ?_
        refine sx_q _ _ (.bool false) rfl rfl rfl (by decide) hX rfl rfl fun a hX => ?_
        refine sx_false hX rfl (wp_skip ?_)
        obtain ⟨j, hj⟩ : ∃ j : Nat, n = Int.ofNat j := ⟨n.toNat, by show n = (n.toNat : Int); omega⟩
        subst hj
        have hjl : j ≤ s.length := by have : ¬ ((s.length : Int) < (j : Int)) := h2; omega
        have e : takeV s false (Int.ofNat j) = (s.take j, s.drop j, false) := by unfold takeV; rw [if_neg (by simp; exact hjl)]; rfl
        show ((seqR (seqR c17)).wp _ _ _ _)
        refine wp_seq (wp_region ?_)
        refine sx_q _ _ _ rfl rfl rfl (by decide) hX rfl rfl fun a hX => ?_
        refine sx_q _ _ _ rfl rfl rfl (by decide) hX rfl rfl fun a hX => ?_
        refine sx_q _ _ _ rfl rfl rfl (by decide) hX rfl (hop_field' fz_57_0 rfl) fun a hX => ?_
        refine sx_q _ _ (.str s) rfl rfl rfl (by decide) hX rfl (hop_load ty_9 rfl (hX.ld 0 rfl rfl)) fun a hX => ?_
        refine sx_q _ _ _ rfl rfl rfl (by decide) hX rfl rfl fun a hX => ?_
        refine sx_q _ _ (.str (s.take j)) rfl rfl rfl (by decide) hX rfl (hop_slice_hstr Tryz.underlying9 rfl rfl hjl) fun a hX => ?_
        refine sx_q _ _ _ rfl rfl rfl (by decide) hX rfl rfl fun a hX => ?_
        refine wp_seq (wp_region ?_)
        refine sx_q _ _ _ rfl rfl rfl (by decide) hX rfl rfl fun a hX => ?_
        refine sx_q _ _ _ rfl rfl rfl (by decide) hX rfl rfl fun a hX => ?_
        refine sx_q _ _ _ rfl rfl rfl (by decide) hX rfl rfl fun a hX => ?_
        refine sx_q _ _ _ rfl rfl rfl (by decide) hX rfl (hop_field' fz_57_0 rfl) fun a hX => ?_
        refine sx_q _ _ (.str s) rfl rfl rfl (by decide) hX rfl (hop_load ty_9 rfl (hX.ld 0 rfl rfl)) fun a hX => ?_
        refine sx_q _ _ _ rfl rfl rfl (by decide) hX rfl rfl fun a hX => ?_
        refine sx_q _ _ (.str (s.drop j)) rfl rfl rfl (by decide) hX rfl (hop_slice_str Tryz.underlying9 rfl rfl hjl) fun a hX => ?_
        refine sx_q _ _ _ rfl rfl rfl (by decide) hX rfl rfl fun a hX => ?_
        refine sx_q _ _ _ rfl rfl rfl (by decide) hX rfl (hop_field' fz_57_0 rfl) fun a hX => ?_
        refine sx_st _ 0 p 0 _ [.str (s.drop j)] rfl rfl rfl hX rfl (by simp [cellsRd]) (hop_storeN sz_9 rfl rfl rfl rfl) fun ρ H w hX => ?_
        refine wp_seq (wp_region ?_)
        refine sx_q _ _ _ rfl rfl rfl (by decide) hX rfl rfl fun a hX => ?_
        refine sx_q _ _ _ rfl rfl rfl (by decide) hX rfl rfl fun a hX => ?_
        refine sx_ret1 4 _ hX rfl rfl ?_ id
        refine turns_of hX ⟨?_, ?_⟩
        · rw [e]
        · rw [e]; rfl
end Go.Vex
namespace Go.Vex
open Go.Proofs
set_option maxRecDepth 100000
variable {P : Program} {ρ ρ0 : Rho} {H H0 : Hp} {w w0 : World} {a : Act} {Q : Exit → Act → World → Prop} {Wr : Nat → Prop}
/-- A call that turns the first of the walk's own blocks. -/
theorem sx_turn0 {ops : Array Oper} {i n : Nat} {rest : List Nat} {F : SlF} (o : Oper) (d : Nat) (f : FuncId) (args : List AV) {p : Nat} {cs cs' : List AV} {V : AV} {Ψ : List (Nat × List AV)} (ho : ops[i]? = some o) (hg : o.guard = none) (hd : o.dst = some d) (hdn : d < n)
    (h : Sx P ρ0 H0 w0 n Wr ((p, cs) :: Ψ) F ρ H a w) (hop : opA P o.op (envF F) H = some (.call f args))
    (hs : p < H.next → Content (H.fn p) cs → Spec P f args H (Turns p (fun v c => v = V ∧ c = cs') H))
    (hn : ∀ ρ H a w, Sx P ρ0 H0 w0 n Wr ((p, cs') :: Ψ) (upd F d V) ρ H a w → wpOps P ops Q rest a w) : wpOps P ops Q (i :: rest) a w :=
  sx_turn o d f args 0 p cs (fun v c => v = V ∧ c = cs') ho hg hd hdn h hop rfl (hs (h.hp 0 p _ rfl).1 (h.has 0 rfl)) fun v c ρ H a w hR hX => by
    obtain ⟨rfl, rfl⟩ := hR
    exact hn ρ H a w hX
theorem hop_tobytes {e : Env} {H : Hp} {s t el : TypeId} {x : Operand} {ds : TypeDesc} {l : List Nat} (hs : P.underlying s = some ds) (ht : P.underlying t = some (.slice el)) (hu : P.underlying el = some (.int .u8)) (hx : e x = some (.str l)) : ∃ ob, Content ob (bytesAV l) ∧ ∀ H', H.alloc ob = some H' → opA P (.convert s t x) e H = some (.val (.slice H.next 0 l.length (.opn 1)) H') := by
  obtain ⟨t', h1, h2⟩ := ofList_tot (bytesAV l)
  refine ⟨_, ofList_content h1, fun H' ha => ?_⟩
  show Go.Vex.ob (e x) _ = _
  rw [hx]
  show Go.Vex.ob (P.underlying s) _ = _
  rw [hs]
  show Go.Vex.ob (P.underlying t) _ = _
  rw [ht]
  show Go.Vex.ob (P.underlying el) _ = _
  rw [hu]
  show Go.Vex.ob (mapO byteAV l) (fun cs => Go.Vex.ob (ofList cs) fun o => allocV H o (.slice H.next 0 (lenL l 0) (.opn 1))) = _
  have hm : mapO byteAV l = some (bytesAV l) := by
    clear hx h1 h2 ha
    induction l with
    | nil => rfl
    | cons c s ih =>
      show Go.Vex.ob (byteAV c) (fun b => Go.Vex.ob (mapO byteAV s) fun r => some (b :: r)) = _
      rw [ih]; rfl
  rw [hm]
  show Go.Vex.ob (ofList (bytesAV l)) _ = _
  rw [h1, lenL_zero]
  show Go.Vex.ob (H.alloc _) _ = _
  rw [ha]; rfl
end Go.Vex
namespace Go.Vex
open Go.Proofs
set_option maxRecDepth 100000
noncomputable abbrev c18 : Code := codeOf Tryz.f18
noncomputable abbrev l18 : Code := loopB (blkB (seqR (seqL (seqR (seqR c18)))))
theorem en_17 : enterOK Tryz.prog 17 = true := by kernel_rfl
variable {ρ ρ0 : Rho} {H H0 : Hp} {w w0 : World} {a : Act} {Q : Exit → Act → World → Prop} {Wr : Nat → Prop}
theorem rnum_lp (s : List Nat) (hs : ∀ c ∈ s, c < 256) (hl : s.length ≤ 8) (p q : Nat) (cs : List AV) : ∀ (k i : Nat), i + k = s.length → ∀ (m : Int) (ρ : Rho) (H : Hp) (a : Act) (w : World),
    Sx Tryz.prog ρ0 H0 w0 21 Wr [(p, cs), (q, bytesAV s)] (listF [(3, .int .i64 m), (8, .slice q 0 s.length (.opn 1)), (9, .int .i64 (s.length : Int)), (10, .int .i64 (i : Int))]) ρ H a w →
    (∀ ρ H a w, Sx Tryz.prog ρ0 H0 w0 21 Wr [(p, cs), (q, bytesAV s)] (listF [(3, .int .i64 ((s.drop i).foldl Img.stepN m))]) ρ H a w → Q .normal a w) → LoopWp Tryz.prog l18 (Exit.inBlock 0 Q) a w := by
  intro k
  induction k with
  | zero =>
    intro i hi m ρ H a w hX K
    have hlt : ¬ ((i : Int) < (s.length : Int)) := by omega
    refine LoopWp.unroll (wp_seq (wp_region ?_))
    refine sx_q _ _ _ rfl rfl rfl (by decide) hX rfl (by first | exact hop_bin rfl rfl (bin_lss (by first | exact decide_eq_true (by assumption) | exact decide_eq_false (by assumption))) | rfl) fun a hX => ?_
    refine wp_seq (sx_false hX rfl (wp_exit ?_))
    refine then_exit (then_exit (inBlock_hit ?_))
    have e : (s.drop i).foldl Img.stepN m = m := by rw [List.drop_eq_nil_iff.2 (by omega)]; rfl
    rw [e] at K
    exact K ρ H _ w (hX.slots _ ⟨rfl, trivial⟩)
  | succ k ih =>
    intro i hi m ρ H a w hX K
    have hlt : (i : Int) < (s.length : Int) := by omega
    have hi2 : i < s.length := by omega
    obtain ⟨c, hc⟩ : ∃ c, s[i]? = some c := ⟨_, List.getElem?_eq_getElem hi2⟩
    have hc2 := hs c (List.mem_of_getElem? hc)
    have hd : s.drop i = c :: s.drop (i + 1) := by rw [List.drop_eq_getElem?_toList_append, hc]; rfl
    obtain ⟨w1, w2, w3⟩ := wrapI_low m
    have hk : Img.stepN m c = Img.wrapI (m * 256) + (c : Int) := (stepN_eq m c hc2).symm
    refine LoopWp.unroll (wp_seq (wp_region ?_))
    refine sx_q _ _ _ rfl rfl rfl (by decide) hX rfl (by first | exact hop_bin rfl rfl (bin_lss (by first | exact decide_eq_true (by assumption) | exact decide_eq_false (by assumption))) | rfl) fun a hX => ?_
    refine wp_seq (sx_true hX rfl (wp_skip ?_))
    refine wp_seq (wp_block (wp_seq (wp_region ?_)))
    refine sx_q _ _ (.ptr q (0 + i * 1)) rfl rfl rfl (by decide) hX rfl (hop_index ix_48 rfl rfl hi2) fun a hX => ?_
    refine sx_q _ _ (.int .u8 (c : Int)) rfl rfl rfl (by decide) hX rfl (hop_load ty_5 rfl (hX.ld 1 rfl (by rw [Nat.zero_add, Nat.mul_one]; simp [bytesAV, hc]))) fun a hX => ?_
    refine sx_q _ _ _ rfl rfl rfl (by decide) hX rfl rfl fun a hX => ?_
    refine wp_region ?_
    refine sx_q _ _ _ rfl rfl rfl (by decide) hX rfl rfl fun a hX => ?_
    refine sx_q _ _ (.int .i64 (Img.wrapI (m * 256))) rfl rfl rfl (by decide) hX rfl (hop_bin rfl rfl (bin_shl.trans (congrArg (fun z => some (AV.int .i64 z)) (wrap_i64 _)))) fun a hX => ?_
    refine sx_q _ _ _ rfl rfl rfl (by decide) hX rfl rfl fun a hX => ?_
    have hcw : IntKind.i64.wrap (c : Int) = (c : Int) := by rw [wrap_i64]; unfold Img.wrapI; omega
    refine sx_v _ _ (.int .i64 (c : Int)) rfl rfl rfl (by decide) hX ((hop_conv Tryz.underlying5 Tryz.underlying2 rfl).trans (congrArg (fun z => some (OR.val (AV.int .i64 z) _)) hcw)) fun ρ a w hX => ?_
    refine sx_q _ _ (.int .i64 (Img.stepN m c)) rfl rfl rfl (by decide) hX rfl (by rw [hk]; exact hop_bin rfl rfl (or_low w1 w2 w3 hc2)) fun a hX => ?_
    refine sx_q _ _ _ rfl rfl rfl (by decide) hX rfl rfl fun a hX => ?_
    show ((seqR (seqR (seqR l18))).wp _ _ _ _)
    refine wp_region ?_
    have e2 : IntKind.i64.wrap ((i : Int) + Int.ofNat 1) = ((i + 1 : Nat) : Int) := by rw [wrap_i64]; unfold Img.wrapI; show ((i : Int) + 1 + _) % _ - _ = _; omega
    refine sx_q _ _ (.int .i64 ((i + 1 : Nat) : Int)) rfl rfl rfl (by decide) hX rfl (by rw [← e2]; exact hop_bin rfl rfl bin_add) fun a hX => ?_
    refine sx_q _ _ _ rfl rfl rfl (by decide) hX rfl rfl fun a hX => ?_
    rw [hd, List.foldl_cons] at K
    exact ih (i + 1) (by omega) (Img.stepN m c) ρ H _ w (hX.slots _ ⟨rfl, rfl, rfl, rfl, trivial⟩) K
end Go.Vex
namespace Go.Vex
open Go.Proofs
set_option maxRecDepth 100000
variable {ρ ρ0 : Rho} {H H0 : Hp} {w w0 : World} {a : Act} {Q : Exit → Act → World → Prop} {Wr : Nat → Prop}
def numV (s : List Nat) (bad : Bool) : Int × List Nat × Bool := ((takeV s bad 8).1.foldl Img.stepN 0, (takeV s bad 8).2.1, (takeV s bad 8).2.2)
theorem takeV_lt {s : List Nat} (h : ∀ c ∈ s, c < 256) (bad : Bool) (n : Int) : (∀ c ∈ (takeV s bad n).1, c < 256) ∧ ∀ c ∈ (takeV s bad n).2.1, c < 256 := by
  unfold takeV
  split
  · exact ⟨fun c hc => (List.not_mem_nil hc).elim, h⟩
  · exact ⟨fun c hc => h c (List.mem_of_mem_take hc), fun c hc => h c (List.mem_of_mem_drop hc)⟩
theorem takeV_8 (s : List Nat) (bad : Bool) : (takeV s bad 8).1.length ≤ 8 := by
  unfold takeV
  split
  · simp
  · show (s.take 8).length ≤ 8
    rw [List.length_take]; omega
def NumRd (p : Nat) (s : List Nat) (bad : Bool) (H : Hp) : AV → Hp → Prop := Turns p (fun v cs => v = .int .i64 (numV s bad).1 ∧ cs = cellsRd (numV s bad).2.1 (numV s bad).2.2) H
/-- reader.number. -/
theorem rnum_spec (p : Nat) (s : List Nat) (hs : ∀ c ∈ s, c < 256) (bad : Bool) (hp : p < H.next) (hc : Content (H.fn p) (cellsRd s bad)) : Spec Tryz.prog 18 [.ptr p 0] H (NumRd p s bad H) := by
  refine spec_body 21 Tryz.func18 rfl Tryz.ntmps18 (by simp) (fun b => b = p) [(p, cellsRd s bad)] (one_hp (P1 := fun b cs => b < H.next ∧ Content (H.fn b) cs ∧ b = p) ⟨hp, hc, rfl⟩) one_ds fun ρ w a hX => ?_
  refine wp_seq (wp_region ?_)
  refine sx_q _ _ _ rfl rfl rfl (by decide) hX rfl rfl fun a hX => ?_
  refine wp_seq (wp_region ?_)
  refine sx_q _ _ _ rfl rfl rfl (by decide) hX rfl rfl fun a hX => ?_
  refine wp_seq (wp_seq (wp_region ?_))
  refine sx_q _ _ _ rfl rfl rfl (by decide) hX rfl rfl fun a hX => ?_
  refine sx_turn0 _ _ 17 [.ptr p 0, .int .i64 8] rfl rfl rfl (by decide) hX (hop_callf en_17 rfl) (fun h1 h2 => take_spec p s bad 8 h1 h2) fun ρ H1 a w hX => ?_
  refine sx_new _ _ (fun b => .slice b 0 (takeV s bad 8).1.length (.opn 1)) _ rfl rfl rfl (by decide) hX (hop_tobytes Tryz.underlying9 Tryz.underlying48 Tryz.underlying5 rfl) fun q ρ H1 a w hX => ?_
  refine sx_q _ _ (.int .i64 ((takeV s bad 8).1.length : Int)) rfl rfl rfl (by decide) hX rfl (hop_len Tryz.underlying48 rfl) fun a hX => ?_
  refine sx_q _ _ _ rfl rfl rfl (by decide) hX rfl rfl fun a hX => ?_
  refine wp_block (LoopWp.wp ?_)
  refine rnum_lp (takeV s bad 8).1 (takeV_lt hs bad 8).1 (takeV_8 s bad) p q _ _ 0 (Nat.zero_add _) 0 ρ H1 _ w (hX.slots _ ⟨rfl, rfl, rfl, rfl, trivial⟩) fun ρ H1 a w hX => ?_
  show ((seqR (seqR (seqR c18))).wp _ _ _ _)
  refine wp_seq (wp_region ?_)
  refine sx_q _ _ _ rfl rfl rfl (by decide) hX rfl rfl fun a hX => ?_
  refine sx_q _ _ _ rfl rfl rfl (by decide) hX rfl rfl fun a hX => ?_
  refine sx_ret1 2 _ hX rfl rfl ?_ id
  exact turns_of hX ⟨rfl, rfl⟩
end Go.Vex
namespace Go.Vex
open Go.Proofs
set_option maxRecDepth 100000
theorem en_18 : enterOK Tryz.prog 18 = true := by kernel_rfl
noncomputable abbrev c19 : Code := codeOf Tryz.f19
theorem bin_quo {P : Program} {t : TypeId} {a b : Nat} (hb : 0 < b) (ha : a < 9223372036854775808) : binA P .quo t (.int .i64 (a : Int)) (.int .i64 (b : Int)) = some (.int .i64 ((a / b : Nat) : Int)) := by
  show iteB (kEq .i64 .i64) (iteB (intEq (b : Int) 0) none (mkInt .i64 (wrapK .i64 ((a : Int).tdiv (b : Int))))) none = _
  rw [kEq_self, iteB_true]
  have e1 : intEq (b : Int) 0 = false := by rw [intEq_iff]; simp; omega
  rw [e1, iteB_false, mkInt_mk, wrapK_eq]
  have e2 : (a : Int).tdiv (b : Int) = ((a / b : Nat) : Int) := by rw [Int.ofNat_tdiv]
  rw [e2, wrap_i64]
  have : a / b ≤ a := Nat.div_le_self a b
  generalize a / b = q at this ⊢
  have e3 : Img.wrapI (q : Int) = (q : Int) := by unfold Img.wrapI; omega
  rw [e3]
variable {ρ ρ0 : Rho} {H H0 : Hp} {w w0 : World} {a : Act} {Q : Exit → Act → World → Prop} {Wr : Nat → Prop}
/-- A count: the number, the bytes left, is it bad? -/
def cntV (s : List Nat) (bad : Bool) (each : Nat) : Int × List Nat × Bool := if (numV s bad).1 < 0 ∨ (((numV s bad).2.1.length / each : Nat) : Int) < (numV s bad).1 then (0, (numV s bad).2.1, true) else numV s bad
theorem takeV_len (s : List Nat) (bad : Bool) (n : Int) : (takeV s bad n).2.1.length ≤ s.length := by
  unfold takeV
  split
  · exact Nat.le_refl _
  · show (s.drop n.toNat).length ≤ s.length
    rw [List.length_drop]; omega
def CntRd (p : Nat) (s : List Nat) (bad : Bool) (each : Nat) (H : Hp) : AV → Hp → Prop := Turns p (fun v cs => v = .int .i64 (cntV s bad each).1 ∧ cs = cellsRd (cntV s bad each).2.1 (cntV s bad each).2.2) H
theorem cnt_bad (p : Nat) (s : List Nat) (bad : Bool) (each : Nat) (hbad : (numV s bad).1 < 0 ∨ (((numV s bad).2.1.length / each : Nat) : Int) < (numV s bad).1) {F : SlF} (hF : F 0 = some (.ptr p 0)) (hX : Sx Tryz.prog ρ0 H0 w0 25 (fun b => b = p) [(p, cellsRd (numV s bad).2.1 (numV s bad).2.2)] F ρ H a w) :
    (condT (seqR (seqL (seqR (seqR c19))))).wp Tryz.prog (Exit.then ((seqR (seqR (seqR c19))).wp Tryz.prog (bodyPostD Tryz.prog Tryz.f19 (Post ρ0 H0 w0 (CntRd p s bad each H0)))) (bodyPostD Tryz.prog Tryz.f19 (Post ρ0 H0 w0 (CntRd p s bad each H0)))) a w := by
  have e : cntV s bad each = (0, (numV s bad).2.1, true) := by unfold cntV; rw [if_pos hbad]
  have hX := hX.slots [(0, .ptr p 0)] ⟨hF, trivial⟩
  refine wp_seq (wp_region ?_)
  refine sx_q _ _ _ rfl rfl rfl (by decide) hX rfl rfl fun a hX => ?_
  refine sx_q _ _ _ rfl rfl rfl (by decide) hX rfl rfl fun a hX => ?_
  refine sx_q _ _ _ rfl rfl rfl (by decide) hX rfl (hop_field' fz_57_1 rfl) fun a hX => ?_
  refine sx_st _ 0 p 1 _ [.bool true] rfl rfl rfl hX rfl (by simp [cellsRd]) (hop_storeN sz_4 rfl rfl rfl rfl) fun ρ H w hX => ?_
  refine wp_seq (wp_region ?_)
  refine sx_q _ _ _ rfl rfl rfl (by decide) hX rfl rfl fun a hX => ?_
  refine sx_ret1 4 _ hX rfl rfl ?_ id
  refine turns_of hX ⟨?_, ?_⟩
  · rw [e]; try rfl
  · rw [e]; try rfl
/-- reader.count. -/
theorem cnt_spec (p : Nat) (s : List Nat) (hs : ∀ c ∈ s, c < 256) (hl : s.length < 9223372036854775808) (bad : Bool) (each : Nat) (he : 0 < each) (hp : p < H.next) (hc : Content (H.fn p) (cellsRd s bad)) : Spec Tryz.prog 19 [.ptr p 0, .int .i64 (each : Int)] H (CntRd p s bad each H) := by
  refine spec_body 25 Tryz.func19 rfl Tryz.ntmps19 (by simp) (fun b => b = p) [(p, cellsRd s bad)] (one_hp (P1 := fun b cs => b < H.next ∧ Content (H.fn b) cs ∧ b = p) ⟨hp, hc, rfl⟩) one_ds fun ρ w a hX => ?_
  have hln : (numV s bad).2.1.length ≤ s.length := takeV_len s bad 8
  refine wp_seq (wp_region ?_)
  refine sx_q _ _ _ rfl rfl rfl (by decide) hX rfl rfl fun a hX => ?_
  refine wp_seq (wp_region ?_)
  refine sx_q _ _ _ rfl rfl rfl (by decide) hX rfl rfl fun a hX => ?_
  refine sx_turn0 _ _ 18 [.ptr p 0] rfl rfl rfl (by decide) hX (hop_callf en_18 rfl) (fun h1 h2 => rnum_spec p s hs bad h1 h2) fun ρ H1 a w hX => ?_
  refine sx_q _ _ _ rfl rfl rfl (by decide) hX rfl rfl fun a hX => ?_
  refine wp_seq (wp_seq (wp_region ?_))
  refine sx_q _ _ _ rfl rfl rfl (by decide) hX rfl rfl fun a hX => ?_
  by_cases h1 : (numV s bad).1 < 0
  · refine sx_q _ _ (.bool true) rfl rfl rfl (by decide) hX rfl (hop_bin rfl rfl (bin_lss (decide_eq_true h1))) fun a hX => ?_
    refine sx_q _ _ (.bool true) rfl rfl rfl (by decide) hX rfl rfl fun a hX => ?_
    refine sx_gf _ _ rfl rfl rfl (by decide) hX rfl fun a hX => ?_
    refine sx_gf _ _ rfl rfl rfl (by decide) hX rfl fun a hX => ?_
    refine sx_gf _ _ rfl rfl rfl (by decide) hX rfl fun a hX => ?_
    refine sx_gf _ _ rfl rfl rfl (by decide) hX rfl fun a hX => ?_
    refine sx_gf _ _ rfl rfl rfl (by decide) hX rfl fun a hX => ?_
    refine sx_gf _ _ rfl rfl rfl (by decide) hX rfl fun a hX => ?_
    refine sx_gf _ _ rfl rfl rfl (by decide) hX rfl fun a hX => ?_
    refine sx_gf _ _ rfl rfl rfl (by decide) hX rfl fun a hX => ?_
    refine sx_gf _ _ rfl rfl rfl (by decide) hX rfl fun a hX => ?_
    refine sx_q _ _ (.bool true) rfl rfl rfl (by decide) hX rfl rfl fun a hX => ?_
    exact sx_true hX rfl (cnt_bad p s bad each (.inl h1) rfl hX)
  · refine sx_q _ _ (.bool false) rfl rfl rfl (by decide) hX rfl (hop_bin rfl rfl (bin_lss (decide_eq_false h1))) fun a hX => ?_
    refine sx_q _ _ (.bool false) rfl rfl rfl (by decide) hX rfl rfl fun a hX => ?_
    refine sx_gt _ _ _ rfl rfl rfl (by decide) hX rfl rfl fun a hX => ?_
    refine sx_gt _ _ _ rfl rfl rfl (by decide) hX rfl rfl fun a hX => ?_
    refine sx_gt _ _ _ rfl rfl rfl (by decide) hX rfl rfl fun a hX => ?_
    refine sx_gt _ _ _ rfl rfl rfl (by decide) hX rfl (hop_field' fz_57_0 rfl) fun a hX => ?_
    refine sx_gt _ _ (.str (numV s bad).2.1) rfl rfl rfl (by decide) hX rfl (hop_load ty_9 rfl (hX.ld 0 rfl rfl)) fun a hX => ?_
    refine sx_gt _ _ (.int .i64 ((numV s bad).2.1.length : Int)) rfl rfl rfl (by decide) hX rfl (hop_len_str Tryz.underlying9 rfl) fun a hX => ?_
    refine sx_gt _ _ _ rfl rfl rfl (by decide) hX rfl rfl fun a hX => ?_
    refine sx_gt _ _ (.int .i64 (((numV s bad).2.1.length / each : Nat) : Int)) rfl rfl rfl (by decide) hX rfl (hop_bin rfl rfl (bin_quo he (by omega))) fun a hX => ?_
    by_cases h2 : (((numV s bad).2.1.length / each : Nat) : Int) < (numV s bad).1
    · refine sx_gt _ _ (.bool true) rfl rfl rfl (by decide) hX rfl (hop_bin rfl rfl (bin_gtr (decide_eq_true h2))) fun a hX => ?_
      refine sx_q _ _ (.bool true) rfl rfl rfl (by decide) hX rfl rfl fun a hX => ?_
      exact sx_true hX rfl (cnt_bad p s bad each (.inr h2) rfl hX)
    · refine sx_gt _ _ (.bool false) rfl rfl rfl (by decide) hX rfl (hop_bin rfl rfl (bin_gtr (decide_eq_false h2))) fun a hX => ?_
      refine sx_q _ _ (.bool false) rfl rfl rfl (by decide) hX rfl rfl fun a hX => ?_
      refine sx_false hX rfl (wp_skip ?_)
      have e : cntV s bad each = numV s bad := by unfold cntV; rw [if_neg (by intro h; exact h.elim h1 h2)]
      show ((seqR (seqR (seqR c19))).wp _ _ _ _)
      refine wp_seq (wp_region ?_)
      refine sx_q _ _ _ rfl rfl rfl (by decide) hX rfl rfl fun a hX => ?_
      refine sx_q _ _ _ rfl rfl rfl (by decide) hX rfl rfl fun a hX => ?_
      refine sx_ret1 4 _ hX rfl rfl ?_ id
      refine turns_of hX ⟨?_, ?_⟩
      · rw [e]
      · rw [e]
end Go.Vex
