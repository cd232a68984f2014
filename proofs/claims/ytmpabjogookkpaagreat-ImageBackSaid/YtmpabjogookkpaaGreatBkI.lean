/-
  The law's own walk.
  No condition.
-/
import Derived.Test.YtmpabjogookkpaaGreatBkH
import Derived.Test.YtmpabjogookkpaaGreatBkL
set_option linter.unusedVariables false
namespace Go.Vex
open Go.Proofs
set_option maxRecDepth 100000
variable {ρ ρ0 : Rho} {H H0 : Hp} {w w0 : World} {a : Act} {Q : Exit → Act → World → Prop} {Wr : Nat → Prop}
theorem en_5 : enterOK Tryz.prog 5 = true := by kernel_rfl
theorem en_6 : enterOK Tryz.prog 6 = true := by kernel_rfl
theorem en_7 : enterOK Tryz.prog 7 = true := by kernel_rfl
theorem en_8 : enterOK Tryz.prog 8 = true := by kernel_rfl
theorem en_9 : enterOK Tryz.prog 9 = true := by kernel_rfl
theorem en_10 : enterOK Tryz.prog 10 = true := by kernel_rfl
/-! ### Sizes -/
def sumL (l : List (List Img.Op)) : Nat := (l.map fun r => r.length + 1).sum
theorem leftV_sum : ∀ (l : List (List Img.Op)) (n : Int), 0 ≤ leftV n l → (sumL l : Int) ≤ n := by
  intro l
  induction l with
  | nil => intro n h; exact h
  | cons r l ih =>
    intro n h
    unfold leftV at h
    split at h
    · omega
    · have := ih _ h
      have e : sumL (r :: l) = r.length + 1 + sumL l := by unfold sumL; simp
      omega
theorem encR_sum : ∀ (l : List (List Img.Op)), (Img.encR l).length ≤ 13 * sumL l := by
  intro l
  induction l with
  | nil => simp [Img.encR]
  | cons r l ih =>
    have e : sumL (r :: l) = r.length + 1 + sumL l := by unfold sumL; simp
    rw [encR_cons, List.length_append, List.length_append, Img.beN_len, e]
    have := Img.encL_len r
    omega
theorem sumL_len : ∀ (l : List (List Img.Op)), l.length ≤ sumL l := by
  intro l
  induction l with
  | nil => exact Nat.le_refl _
  | cons r l ih =>
    have e : sumL (r :: l) = r.length + 1 + sumL l := by unfold sumL; simp
    simp; omega
theorem sumL_mem : ∀ (l : List (List Img.Op)) (r : List Img.Op), r ∈ l → r.length ≤ sumL l := by
  intro l
  induction l with
  | nil => intro r h; cases h
  | cons q l ih =>
    intro r h
    have e : sumL (q :: l) = q.length + 1 + sumL l := by unfold sumL; simp
    rcases List.mem_cons.1 h with rfl | h
    · omega
    · have := ih r h; omega
theorem beyV2 {x y : Int} (h : beyV 0 [x, y] = false) : 0 ≤ x ∧ x ≤ 262144 ∧ 0 ≤ y ∧ y ≤ 262144 := by
  unfold beyV at h
  split at h
  · cases h
  · split at h
    · cases h
    · unfold beyV at h
      split at h
      · cases h
      · omega
theorem size_small {m : Img.Im} (h : sizeV m ≤ 262144) : m.code.length ≤ 262144 ∧ m.cells.length ≤ 262144 ∧ (Img.encB m).length ≤ 4194340 ∧ ∀ r ∈ m.code, r.length ≤ 262144 := by
  unfold sizeV cntdV at h
  have hl := leftV_le m.code (262144 - (m.cells.length : Int))
  split at h
  · omega
  · have h1 := leftV_sum m.code (262144 - (m.cells.length : Int)) (by omega)
    have h2 := sumL_len m.code
    have h3 := encR_sum m.code
    have h4 := encC_len m.cells
    refine ⟨by omega, by omega, ?_, fun r hr => by have := sumL_mem m.code r hr; omega⟩
    unfold Img.encB
    simp only [List.length_append, Img.beN_len]
    have : Img.hdr.length = 12 := rfl
    omega
/-- Two operations behind one another that hold only if the first does. -/
theorem sx_dec {ops : Array Oper} {i n : Nat} {rest : List Nat} {Φ : List (Nat × List AV)} {F : SlF} (o : Oper) (d : Nat) (bs : List Nat) (hb : ∀ c ∈ bs, c < 256) (hbl : bs.length ≤ 8388608) (ho : ops[i]? = some o) (hg : o.guard = none) (hd : o.dst = some d) (hdn : d < n) (h : Sx Tryz.prog ρ0 H0 w0 n Wr Φ F ρ H a w) (hop : opA Tryz.prog o.op (envF F) H = some (.call 8 [.str bs]))
    (hs : ∀ m Vc Ve Ψ ρ H a w, parse bs = some m → ImIn Ψ Vc Ve m → Sx Tryz.prog ρ0 H0 w0 n Wr (Φ ++ Ψ) (upd F d (.tup [.agg (cellsM Vc m.mem Ve), .int .i64 0])) ρ H a w → wpOps Tryz.prog ops Q rest a w)
    (hn : ∀ ρ H a w, parse bs = none → Sx Tryz.prog ρ0 H0 w0 n Wr Φ (upd F d (.tup [.agg Z3, ErrForm])) ρ H a w → wpOps Tryz.prog ops Q rest a w) : wpOps Tryz.prog ops Q (i :: rest) a w := by
  refine sx_call o 8 [.str bs] ho hg h hop (idec_spec bs hb hbl) fun v ρ' H' u w' hR hv hr hx => ?_
  obtain ⟨hst, hR⟩ := hR
  have hbl := h.below
  have hX' := (h.stay hr hx hst).put hdn hv
  rw [hd]
  rcases hR with ⟨m, Vc, Ve, Ψ, hp, rfl, hI, hΨ, hnd⟩ | ⟨hp, rfl⟩
  · exact hs m Vc Ve Ψ ρ' H' _ w' hp hI (Sx.adds Ψ hX' hbl h.next_le hΨ hnd)
  · exact hn ρ' H' _ w' hp hX'
noncomputable abbrev c3 : Code := codeOf Tryz.f3
noncomputable abbrev m1 : Code := seqR c3
noncomputable abbrev m3 : Code := seqR m1
noncomputable abbrev m4 : Code := seqR m3
noncomputable abbrev m12 : Code := seqR m4
noncomputable abbrev P3 (ρ0 : Rho) (H0 : Hp) (w0 : World) := bodyPostD Tryz.prog Tryz.f3 (Post ρ0 H0 w0 (Pure (.bool true) H0))
/-- The second half: bytes as an image, and back. -/
theorem ib_tail (b : List Nat) (hb : ∀ c ∈ b, c < 256) (hbl : b.length ≤ 262144) {Φ : List (Nat × List AV)} {F : SlF} (hF : F 1 = some (.str b)) (hX : Sx Tryz.prog ρ0 H0 w0 110 No Φ F ρ H a w) : m12.wp Tryz.prog (P3 ρ0 H0 w0) a w := by
  have hX := hX.keep0.slots [(1, .str b)] ⟨hF, trivial⟩
  refine wp_seq (wp_region ?_)
  refine sx_q _ _ _ rfl rfl rfl (by decide) hX rfl rfl fun a hX => ?_
  refine sx_dec _ _ b hb (by omega) rfl rfl rfl (by decide) hX (hop_callf en_8 rfl) (fun m Vc Ve Ψ ρ H a w hp hI hX => ?_) (fun ρ H a w hp hX => ?_)
  · obtain ⟨hG, hE⟩ := parse_inv hb (by omega) hp
    refine sx_q _ _ _ rfl rfl rfl (by decide) hX rfl rfl fun a hX => ?_
    refine sx_q _ _ (.agg (cellsM Vc m.mem Ve)) rfl rfl rfl (by decide) hX rfl rfl fun a hX => ?_
    refine sx_q _ _ (.int .i64 0) rfl rfl rfl (by decide) hX rfl rfl fun a hX => ?_
    refine sx_new _ _ (fun b => .ptr b 0) _ rfl rfl rfl (by decide) hX (hop_alloc zc_25) fun nb ρ H a w hX => ?_
    have hX : Sx Tryz.prog ρ0 H0 w0 110 No (Ψ ++ [(nb, Z3)]) _ ρ H a w := hX
    have hX := hX.front
    refine sx_st _ 0 nb 0 _ (cellsM Vc m.mem Ve) rfl rfl rfl hX rfl (by simp) (hop_storeN sz_25 rfl rfl rfl rfl) fun ρ H w hX => ?_
    have hX : Sx Tryz.prog ρ0 H0 w0 110 No ((nb, cellsM Vc m.mem Ve) :: Ψ) _ ρ H a w := hX
    refine sx_q _ _ (.int .i64 0) rfl rfl rfl (by decide) hX rfl rfl fun a hX => ?_
    refine wp_seq (wp_seq (wp_region ?_))
    refine sx_q _ _ _ rfl rfl rfl (by decide) hX rfl rfl fun a hX => ?_
    refine sx_q _ _ (.bool false) rfl rfl rfl (by decide) hX rfl (hop_bin rfl rfl (bin_neq_f rfl)) fun a hX => ?_
    refine sx_false hX rfl (wp_skip ?_)
    show ((seqR (seqR m12)).wp _ _ _ _)
    refine wp_seq (wp_region ?_)
    refine sx_q _ _ (.agg (cellsM Vc m.mem Ve)) rfl rfl rfl (by decide) hX rfl (hop_loadN ty_25 rfl (hX.ldN 0 rfl (by simp) rfl)) fun a hX => ?_
    obtain ⟨hSR, hSC⟩ := (hI.mono fun x hx => List.mem_cons_of_mem (nb, cellsM Vc m.mem Ve) hx).sl hX
    refine sx_pure _ _ 7 [.agg (cellsM Vc m.mem Ve)] (iencAV m) rfl rfl rfl (by decide) hX (hop_callf en_7 rfl) (ienc_spec m Vc Ve hG.2.1 hSR hSC (by rw [hE]; omega)) fun ρ H a w hX => ?_
    have e : iencAV m = .tup [.str b, .int .i64 0] := by unfold iencAV; rw [if_pos hG.1, hE]
    rw [e] at hX
    refine sx_q _ _ _ rfl rfl rfl (by decide) hX rfl rfl fun a hX => ?_
    refine sx_q _ _ (.str b) rfl rfl rfl (by decide) hX rfl rfl fun a hX => ?_
    refine sx_q _ _ (.int .i64 0) rfl rfl rfl (by decide) hX rfl rfl fun a hX => ?_
    refine sx_q _ _ (.str b) rfl rfl rfl (by decide) hX rfl rfl fun a hX => ?_
    refine sx_q _ _ (.int .i64 0) rfl rfl rfl (by decide) hX rfl rfl fun a hX => ?_
    refine wp_seq (wp_region ?_)
    refine sx_q _ _ _ rfl rfl rfl (by decide) hX rfl rfl fun a hX => ?_
    refine sx_q _ _ (.bool true) rfl rfl rfl (by decide) hX rfl (hop_bin rfl rfl (bin_eql (decide_eq_true rfl))) fun a hX => ?_
    refine sx_q _ _ (.bool true) rfl rfl rfl (by decide) hX rfl rfl fun a hX => ?_
    refine sx_gt _ _ _ rfl rfl rfl (by decide) hX rfl rfl fun a hX => ?_
    refine sx_gt _ _ _ rfl rfl rfl (by decide) hX rfl rfl fun a hX => ?_
    refine sx_gt _ _ (.bool true) rfl rfl rfl (by decide) hX rfl (hop_bin rfl rfl (bin_eql_str.trans (by rw [decide_eq_true rfl]))) fun a hX => ?_
    refine sx_q _ _ (.bool true) rfl rfl rfl (by decide) hX rfl rfl fun a hX => ?_
    refine sx_q _ _ (.bool true) rfl rfl rfl (by decide) hX rfl rfl fun a hX => ?_
    refine sx_gpure _ _ 10 [] (.bool true) rfl rfl rfl (by decide) hX (hop_callf en_10 rfl) (liv_spec _) fun ρ H1 a w hX => ?_
    refine sx_q _ _ (.bool true) rfl rfl rfl (by decide) hX rfl rfl fun a hX => ?_
    refine sx_q _ _ (.bool true) rfl rfl rfl (by decide) hX rfl rfl fun a hX => ?_
    exact sx_ret1 4 _ hX rfl rfl (hX.pure _) id
  · refine sx_q _ _ _ rfl rfl rfl (by decide) hX rfl rfl fun a hX => ?_
    refine sx_q _ _ (.agg Z3) rfl rfl rfl (by decide) hX rfl rfl fun a hX => ?_
    refine sx_q _ _ ErrForm rfl rfl rfl (by decide) hX rfl rfl fun a hX => ?_
    refine sx_new _ _ (fun b => .ptr b 0) _ rfl rfl rfl (by decide) hX (hop_alloc zc_25) fun nb ρ H a w hX => ?_
    refine sx_st _ 0 nb 0 _ Z3 rfl rfl rfl hX rfl (by simp) (hop_storeN sz_25 rfl rfl rfl rfl) fun ρ H w hX => ?_
    have hX : Sx Tryz.prog ρ0 H0 w0 110 No [(nb, Z3)] _ ρ H a w := hX
    refine sx_q _ _ ErrForm rfl rfl rfl (by decide) hX rfl rfl fun a hX => ?_
    refine wp_seq (wp_seq (wp_region ?_))
    refine sx_q _ _ _ rfl rfl rfl (by decide) hX rfl rfl fun a hX => ?_
    refine sx_q _ _ (.bool true) rfl rfl rfl (by decide) hX rfl (hop_bin rfl rfl (bin_neq_t (by decide))) fun a hX => ?_
    refine sx_true hX rfl (wp_seq (wp_region ?_))
    refine sx_q _ _ _ rfl rfl rfl (by decide) hX rfl rfl fun a hX => ?_
    refine sx_q _ _ (.bool true) rfl rfl rfl (by decide) hX rfl (hop_bin rfl rfl (bin_eql (decide_eq_true rfl))) fun a hX => ?_
    refine sx_q _ _ (.bool true) rfl rfl rfl (by decide) hX rfl rfl fun a hX => ?_
    refine sx_gt _ _ _ rfl rfl rfl (by decide) hX rfl (hop_field' fz_25_1 rfl) fun a hX => ?_
    refine sx_gt _ _ (.int .i64 0) rfl rfl rfl (by decide) hX rfl (hop_load ty_3 rfl (hX.ld 0 rfl rfl)) fun a hX => ?_
    refine sx_gt _ _ (.bool true) rfl rfl rfl (by decide) hX rfl (hop_bin rfl rfl (bin_eql (decide_eq_true rfl))) fun a hX => ?_
    refine sx_q _ _ (.bool true) rfl rfl rfl (by decide) hX rfl rfl fun a hX => ?_
    refine sx_q _ _ (.bool true) rfl rfl rfl (by decide) hX rfl rfl fun a hX => ?_
    refine sx_gt _ _ _ rfl rfl rfl (by decide) hX rfl (hop_field' fz_25_0 rfl) fun a hX => ?_
    refine sx_gt _ _ .nils rfl rfl rfl (by decide) hX rfl (hop_load ty_22 rfl (hX.ld 0 rfl rfl)) fun a hX => ?_
    refine sx_gt _ _ (.int .i64 0) rfl rfl rfl (by decide) hX rfl (hop_len_nil Tryz.underlying22 rfl) fun a hX => ?_
    refine sx_gt _ _ (.bool true) rfl rfl rfl (by decide) hX rfl (hop_bin rfl rfl (bin_eql (decide_eq_true rfl))) fun a hX => ?_
    refine sx_q _ _ (.bool true) rfl rfl rfl (by decide) hX rfl rfl fun a hX => ?_
    refine sx_q _ _ (.bool true) rfl rfl rfl (by decide) hX rfl rfl fun a hX => ?_
    refine sx_gt _ _ _ rfl rfl rfl (by decide) hX rfl (hop_field' fz_25_2 rfl) fun a hX => ?_
    refine sx_gt _ _ .nils rfl rfl rfl (by decide) hX rfl (hop_load ty_23 rfl (hX.ld 0 rfl rfl)) fun a hX => ?_
    refine sx_gt _ _ (.int .i64 0) rfl rfl rfl (by decide) hX rfl (hop_len_nil Tryz.underlying23 rfl) fun a hX => ?_
    refine sx_gt _ _ (.bool true) rfl rfl rfl (by decide) hX rfl (hop_bin rfl rfl (bin_eql (decide_eq_true rfl))) fun a hX => ?_
    refine sx_q _ _ (.bool true) rfl rfl rfl (by decide) hX rfl rfl fun a hX => ?_
    refine sx_q _ _ (.bool true) rfl rfl rfl (by decide) hX rfl rfl fun a hX => ?_
    refine sx_gpure _ _ 10 [] (.bool true) rfl rfl rfl (by decide) hX (hop_callf en_10 rfl) (liv_spec _) fun ρ H1 a w hX => ?_
    refine sx_q _ _ (.bool true) rfl rfl rfl (by decide) hX rfl rfl fun a hX => ?_
    refine sx_q _ _ (.bool true) rfl rfl rfl (by decide) hX rfl rfl fun a hX => ?_
    exact sx_ret1 4 _ hX rfl rfl (hX.pure _) id
end Go.Vex
namespace Go.Vex
open Go.Proofs
set_option maxRecDepth 100000
variable {ρ ρ0 : Rho} {H H0 : Hp} {w w0 : World} {a : Act} {Q : Exit → Act → World → Prop} {Wr : Nat → Prop}
theorem el_44 : elemOf Tryz.prog 44 = some 3 := by kernel_rfl
theorem zc_3 : zeroCells Tryz.prog 3 = some [.int .i64 0] := by kernel_rfl
noncomputable abbrev yy4 : Code := condT (seqR (seqL m4))
theorem encB_ne (m : Img.Im) : Img.encB m ≠ [] := by
  unfold Img.encB Img.hdr; simp
/-- An image as bytes, and back. -/
theorem ib_yes (m : Img.Im) (hG : GoodI m) (hlen : (Img.encB m).length ≤ 4194340) (Vc Ve : AV) (hV : SlRows H0 Vc m.code) (hVe : SlCells H0 Ve m.cells) (b : List Nat) (hb : ∀ c ∈ b, c < 256) (hbl : b.length ≤ 262144) (B : Nat)
    (hX : Sx Tryz.prog ρ0 H0 w0 110 No [(B, cellsM Vc m.mem Ve)] (listF [(1, .str b), (2, .ptr B 0), (5, .str (Img.encB m))]) ρ H a w) : yy4.wp Tryz.prog (Exit.then (fun a w => m12.wp Tryz.prog (P3 ρ0 H0 w0) a w) (P3 ρ0 H0 w0)) a w := by
  have hlt := encB_lt hG.2.1
  have hp0 : parse (Img.encB m) = some m := by have := parse_app hG []; rw [List.append_nil, if_pos rfl] at this; exact this
  refine wp_seq (wp_seq (wp_region ?_))
  refine sx_q _ _ _ rfl rfl rfl (by decide) hX rfl rfl fun a hX => ?_
  refine sx_q _ _ (.bool false) rfl rfl rfl (by decide) hX rfl (hop_bin (B := .str []) rfl rfl (bin_eql_str.trans (by rw [decide_eq_false (encB_ne m)]))) fun a hX => ?_
  refine sx_false hX rfl (wp_skip ?_)
  refine wp_seq (wp_region ?_)
  refine sx_q _ _ _ rfl rfl rfl (by decide) hX rfl rfl fun a hX => ?_
  refine sx_dec _ _ (Img.encB m) hlt (by omega) rfl rfl rfl (by decide) hX (hop_callf en_8 rfl) (fun m' Vc' Ve' Ψ ρ H a w hp hI hX => ?_) (fun ρ H a w hp hX => by rw [hp0] at hp; cases hp)
  rw [hp0] at hp
  injection hp with hp; subst hp
  refine sx_q _ _ _ rfl rfl rfl (by decide) hX rfl rfl fun a hX => ?_
  refine sx_q _ _ (.agg (cellsM Vc' m.mem Ve')) rfl rfl rfl (by decide) hX rfl rfl fun a hX => ?_
  refine sx_q _ _ (.int .i64 0) rfl rfl rfl (by decide) hX rfl rfl fun a hX => ?_
  refine sx_new _ _ (fun b => .ptr b 0) _ rfl rfl rfl (by decide) hX (hop_alloc zc_25) fun N ρ H a w hX => ?_
  have hX := hX.front
  refine sx_st _ 0 N 0 _ (cellsM Vc' m.mem Ve') rfl rfl rfl hX rfl (by simp) (hop_storeN sz_25 rfl rfl rfl rfl) fun ρ H w hX => ?_
  have hX : Sx Tryz.prog ρ0 H0 w0 110 No ((N, cellsM Vc' m.mem Ve') :: (B, cellsM Vc m.mem Ve) :: Ψ) _ ρ H a w := hX
  refine sx_q _ _ (.int .i64 0) rfl rfl rfl (by decide) hX rfl rfl fun a hX => ?_
  have hX := hX.slots [(1, .str b), (2, .ptr B 0), (5, .str (Img.encB m)), (7, .ptr N 0), (8, .int .i64 0)] ⟨rfl, rfl, rfl, rfl, rfl, trivial⟩
  -- a byte more
  refine wp_seq (wp_region ?_)
  refine sx_q _ _ _ rfl rfl rfl (by decide) hX rfl rfl fun a hX => ?_
  refine sx_q _ _ (.str (Img.encB m ++ [120])) rfl rfl rfl (by decide) hX rfl (hop_bin (B := .str [120]) rfl rfl (bin_add_str (by simp; omega))) fun a hX => ?_
  have hp1 : parse (Img.encB m ++ [120]) = none := by rw [parse_app hG [120], if_neg (by simp)]
  refine sx_dec _ _ (Img.encB m ++ [120]) (fun c hc => by
    rcases List.mem_append.1 hc with h | h
    · exact hlt c h
    · simp at h; omega) (by simp; omega) rfl rfl rfl (by decide) hX (hop_callf en_8 rfl) (fun m' Vc' Ve' Ψ ρ H a w hp hI hX => by rw [hp1] at hp; cases hp) (fun ρ H a w hp hX => ?_)
  refine sx_q _ _ _ rfl rfl rfl (by decide) hX rfl rfl fun a hX => ?_
  refine sx_q _ _ (.agg Z3) rfl rfl rfl (by decide) hX rfl rfl fun a hX => ?_
  refine sx_q _ _ ErrForm rfl rfl rfl (by decide) hX rfl rfl fun a hX => ?_
  refine sx_new _ _ (fun b => .ptr b 0) _ rfl rfl rfl (by decide) hX (hop_alloc zc_25) fun N1 ρ H a w hX => ?_
  have hX := hX.front
  refine sx_st _ 0 N1 0 _ Z3 rfl rfl rfl hX rfl (by simp) (hop_storeN sz_25 rfl rfl rfl rfl) fun ρ H w hX => ?_
  refine sx_q _ _ ErrForm rfl rfl rfl (by decide) hX rfl rfl fun a hX => ?_
  have hX : Sx Tryz.prog ρ0 H0 w0 110 No ((N, cellsM Vc' m.mem Ve') :: (B, cellsM Vc m.mem Ve) :: Ψ) _ ρ H a w := hX.subl (List.sublist_cons_self _ _)
  have hX := hX.slots [(1, .str b), (2, .ptr B 0), (5, .str (Img.encB m)), (7, .ptr N 0), (8, .int .i64 0), (10, ErrForm)] ⟨rfl, rfl, rfl, rfl, rfl, rfl, trivial⟩
  -- a byte less
  have hpos : 1 ≤ (Img.encB m).length := List.length_pos_iff.2 (encB_ne m)
  refine wp_seq (wp_region ?_)
  refine sx_q _ _ _ rfl rfl rfl (by decide) hX rfl rfl fun a hX => ?_
  refine sx_q _ _ _ rfl rfl rfl (by decide) hX rfl rfl fun a hX => ?_
  refine sx_q _ _ (.int .i64 ((Img.encB m).length : Int)) rfl rfl rfl (by decide) hX rfl (hop_len_str Tryz.underlying9 rfl) fun a hX => ?_
  have e1 : IntKind.i64.wrap (((Img.encB m).length : Int) - 1) = Int.ofNat ((Img.encB m).length - 1) := by rw [wrap_i64]; unfold Img.wrapI; show _ = (((Img.encB m).length - 1 : Nat) : Int); omega
  refine sx_q _ _ (.int .i64 (.ofNat ((Img.encB m).length - 1))) rfl rfl rfl (by decide) hX rfl (by rw [← e1]; exact hop_bin rfl rfl bin_sub) fun a hX => ?_
  refine sx_q _ _ (.str ((Img.encB m).take ((Img.encB m).length - 1))) rfl rfl rfl (by decide) hX rfl (hop_slice_hstr Tryz.underlying9 rfl rfl (by omega)) fun a hX => ?_
  obtain ⟨c0, hc0⟩ : ∃ c0, Img.encB m = (Img.encB m).take ((Img.encB m).length - 1) ++ [c0] := by
    refine ⟨(Img.encB m).getLast (encB_ne m), ?_⟩
    have := List.dropLast_concat_getLast (encB_ne m)
    rw [List.dropLast_eq_take] at this
    exact this.symm
  have hp2 : parse ((Img.encB m).take ((Img.encB m).length - 1)) = none := parse_less hG hlt (by omega) hc0
  refine sx_dec _ _ ((Img.encB m).take ((Img.encB m).length - 1)) (fun c hc => hlt c (List.mem_of_mem_take hc)) (by rw [List.length_take]; omega) rfl rfl rfl (by decide) hX (hop_callf en_8 rfl) (fun m' Vc' Ve' Ψ ρ H a w hp hI hX => by rw [hp2] at hp; cases hp) (fun ρ H a w hp hX => ?_)
  refine sx_q _ _ _ rfl rfl rfl (by decide) hX rfl rfl fun a hX => ?_
  refine sx_q _ _ (.agg Z3) rfl rfl rfl (by decide) hX rfl rfl fun a hX => ?_
  refine sx_q _ _ ErrForm rfl rfl rfl (by decide) hX rfl rfl fun a hX => ?_
  refine sx_new _ _ (fun b => .ptr b 0) _ rfl rfl rfl (by decide) hX (hop_alloc zc_25) fun N2 ρ H a w hX => ?_
  have hX := hX.front
  refine sx_st _ 0 N2 0 _ Z3 rfl rfl rfl hX rfl (by simp) (hop_storeN sz_25 rfl rfl rfl rfl) fun ρ H w hX => ?_
  refine sx_q _ _ ErrForm rfl rfl rfl (by decide) hX rfl rfl fun a hX => ?_
  have hX : Sx Tryz.prog ρ0 H0 w0 110 No ((N, cellsM Vc' m.mem Ve') :: (B, cellsM Vc m.mem Ve) :: Ψ) _ ρ H a w := hX.subl (List.sublist_cons_self _ _)
  -- all of it
  refine wp_seq (wp_region ?_)
  refine sx_q _ _ _ rfl rfl rfl (by decide) hX rfl rfl fun a hX => ?_
  refine sx_q _ _ (.bool false) rfl rfl rfl (by decide) hX rfl (hop_bin rfl rfl (bin_neq_f rfl)) fun a hX => ?_
  refine sx_q _ _ (.bool false) rfl rfl rfl (by decide) hX rfl rfl fun a hX => ?_
  refine sx_gt _ _ (.agg (cellsM Vc m.mem Ve)) rfl rfl rfl (by decide) hX rfl (hop_loadN ty_25 rfl (hX.ldN 1 rfl (by simp) rfl)) fun a hX => ?_
  refine sx_gt _ _ (.agg (cellsM Vc' m.mem Ve')) rfl rfl rfl (by decide) hX rfl (hop_loadN ty_25 rfl (hX.ldN 0 rfl (by simp) rfl)) fun a hX => ?_
  obtain ⟨hSR, hSC⟩ := (hI.mono fun x hx => List.mem_cons_of_mem (N, cellsM Vc' m.mem Ve') (List.mem_cons_of_mem (B, cellsM Vc m.mem Ve) hx)).sl hX
  refine sx_gpure _ _ 9 [.agg (cellsM Vc m.mem Ve), .agg (cellsM Vc' m.mem Ve')] (.bool true) rfl rfl rfl (by decide) hX (hop_callf en_9 rfl) (same9_spec m hG.2.1 Vc Ve Vc' Ve' (hV.mono hX.stays hX.next_le) (hVe.mono hX.stays hX.next_le) hSR hSC) fun ρ H a w hX => ?_
  refine sx_gt _ _ (.bool false) rfl rfl rfl (by decide) hX rfl rfl fun a hX => ?_
  refine sx_q _ _ (.bool false) rfl rfl rfl (by decide) hX rfl rfl fun a hX => ?_
  refine sx_q _ _ (.bool false) rfl rfl rfl (by decide) hX rfl rfl fun a hX => ?_
  refine sx_gt _ _ ErrForm rfl rfl rfl (by decide) hX rfl rfl fun a hX => ?_
  refine sx_gt _ _ (.bool false) rfl rfl rfl (by decide) hX rfl (hop_bin rfl rfl (bin_neq_f rfl)) fun a hX => ?_
  refine sx_q _ _ (.bool false) rfl rfl rfl (by decide) hX rfl rfl fun a hX => ?_
  refine sx_q _ _ (.bool false) rfl rfl rfl (by decide) hX rfl rfl fun a hX => ?_
  refine sx_gt _ _ ErrForm rfl rfl rfl (by decide) hX rfl rfl fun a hX => ?_
  refine sx_gt _ _ (.bool false) rfl rfl rfl (by decide) hX rfl (hop_bin rfl rfl (bin_neq_f rfl)) fun a hX => ?_
  refine sx_q _ _ (.bool false) rfl rfl rfl (by decide) hX rfl rfl fun a hX => ?_
  refine sx_false hX rfl (wp_skip ?_)
  exact ib_tail b hb hbl rfl hX
/-- ImageBack. -/
theorem iback_spec (m : Img.Im) (hL : WfL m) (hw : ∀ l ∈ m.code, ∀ o ∈ l, Img.Wb o) (hc : ∀ p ∈ m.cells, I64 p.1 ∧ I64 p.2) (Vc Ve : AV) (hV : SlRows H Vc m.code) (hVe : SlCells H Ve m.cells) (b : List Nat) (hb : ∀ c ∈ b, c < 256) :
    Spec Tryz.prog 3 [.agg (cellsM Vc m.mem Ve), .str b] H (Pure (.bool true) H) := by
  refine spec_body0 110 Tryz.func3 rfl Tryz.ntmps3 (by simp) fun ρ w a hX => ?_
  refine wp_seq (wp_region ?_)
  refine sx_new _ _ (fun b => .ptr b 0) _ rfl rfl rfl (by decide) hX (hop_box rfl rfl) fun B ρ H1 a w hX => ?_
  refine sx_q _ _ _ rfl rfl rfl (by decide) hX rfl rfl fun a hX => ?_
  have hX : Sx Tryz.prog _ _ _ 110 No [(B, cellsM Vc m.mem Ve)] _ _ _ _ _ := hX
  refine wp_seq (wp_seq (wp_region ?_))
  refine sx_q _ _ (.agg (cellsM Vc m.mem Ve)) rfl rfl rfl (by decide) hX rfl (hop_loadN ty_25 rfl (hX.ldN 0 rfl (by simp) rfl)) fun a hX => ?_
  refine sx_pure _ _ 6 [.agg (cellsM Vc m.mem Ve)] (.int .i64 (sizeV m)) rfl rfl rfl (by decide) hX (hop_callf en_6 rfl) (size_spec m hL Vc Ve (hV.mono hX.stays hX.next_le) (hVe.mono hX.stays hX.next_le)) fun ρ H1 a w hX => ?_
  refine sx_q _ _ _ rfl rfl rfl (by decide) hX rfl rfl fun a hX => ?_
  refine sx_q _ _ (.int .i64 (b.length : Int)) rfl rfl rfl (by decide) hX rfl (hop_len_str Tryz.underlying9 rfl) fun a hX => ?_
  refine sx_new _ _ (fun c => .slice c 0 2 (.fix 2)) [.int .i64 (sizeV m), .int .i64 (b.length : Int)] rfl rfl rfl (by decide) hX (hop_bslice el_44 sz_3 zc_3 rfl rfl rfl (by decide)) fun C ρ H1 a w hX => ?_
  have hI : SlInts H1 (.slice C 0 2 (.fix 2)) [sizeV m, (b.length : Int)] := ⟨C, 0, .fix 2, _, rfl, (hX.hp 1 C _ rfl).1, (hX.has 1 rfl).rds, fun i x h => by
    rcases i with _ | _ | i <;> simp at h <;> subst h <;> rfl⟩
  refine sx_pure _ _ 5 [.slice C 0 2 (.fix 2)] (.bool (beyV 0 [sizeV m, (b.length : Int)])) rfl rfl rfl (by decide) hX (hop_callf en_5 rfl) (bey_spec _ (by simp) _ hI) fun ρ H1 a w hX => ?_
  have hX := hX.keep1 0 (p := (B, cellsM Vc m.mem Ve)) rfl
  cases hby : beyV 0 [sizeV m, (b.length : Int)] with
  | true =>
    rw [hby] at hX
    refine sx_true hX rfl (wp_seq (wp_region ?_))
    refine sx_q _ _ (.bool true) rfl rfl rfl (by decide) hX rfl rfl fun a hX => ?_
    exact sx_ret1 4 _ hX rfl rfl (hX.pure _) id
  | false =>
    rw [hby] at hX
    obtain ⟨_, z1, _, z2⟩ := beyV2 hby
    obtain ⟨g1, g2, g3, g4⟩ := size_small z1
    have hWf : Img.WfI m := ⟨fun l hl => ⟨hw l hl, by have := g4 l hl; omega⟩, by omega, by omega⟩
    refine sx_false hX rfl (wp_skip ?_)
    show m3.wp _ _ _ _
    refine wp_seq (wp_region ?_)
    refine sx_q _ _ (.agg (cellsM Vc m.mem Ve)) rfl rfl rfl (by decide) hX rfl (hop_loadN ty_25 rfl (hX.ldN 0 rfl (by simp) rfl)) fun a hX => ?_
    refine sx_pure _ _ 7 [.agg (cellsM Vc m.mem Ve)] (iencAV m) rfl rfl rfl (by decide) hX (hop_callf en_7 rfl) (ienc_spec m Vc Ve hWf (hV.mono hX.stays hX.next_le) (hVe.mono hX.stays hX.next_le) (by omega)) fun ρ H1 a w hX => ?_
    refine sx_q _ _ _ rfl rfl rfl (by decide) hX rfl rfl fun a hX => ?_
    by_cases h0 : Img.tchk m = 0
    · have e : iencAV m = .tup [.str (Img.encB m), .int .i64 0] := by unfold iencAV; rw [if_pos h0]
      rw [e] at hX
      refine sx_q _ _ (.str (Img.encB m)) rfl rfl rfl (by decide) hX rfl rfl fun a hX => ?_
      refine sx_q _ _ (.int .i64 0) rfl rfl rfl (by decide) hX rfl rfl fun a hX => ?_
      refine sx_q _ _ (.str (Img.encB m)) rfl rfl rfl (by decide) hX rfl rfl fun a hX => ?_
      refine sx_q _ _ (.int .i64 0) rfl rfl rfl (by decide) hX rfl rfl fun a hX => ?_
      refine wp_seq (wp_seq (wp_region ?_))
      refine sx_q _ _ _ rfl rfl rfl (by decide) hX rfl rfl fun a hX => ?_
      refine sx_q _ _ (.bool true) rfl rfl rfl (by decide) hX rfl (hop_bin rfl rfl (bin_eql (decide_eq_true rfl))) fun a hX => ?_
      refine sx_true hX rfl ?_
      exact ib_yes m ⟨h0, hWf, hc⟩ g3 Vc Ve hV hVe b hb (by omega) B (hX.slots _ ⟨rfl, rfl, rfl, trivial⟩)
    · have e : iencAV m = .tup [.str [], .int .i64 (Img.tchk m)] := by unfold iencAV; rw [if_neg h0]
      rw [e] at hX
      refine sx_q _ _ (.str []) rfl rfl rfl (by decide) hX rfl rfl fun a hX => ?_
      refine sx_q _ _ (.int .i64 (Img.tchk m)) rfl rfl rfl (by decide) hX rfl rfl fun a hX => ?_
      refine sx_q _ _ (.str []) rfl rfl rfl (by decide) hX rfl rfl fun a hX => ?_
      refine sx_q _ _ (.int .i64 (Img.tchk m)) rfl rfl rfl (by decide) hX rfl rfl fun a hX => ?_
      refine wp_seq (wp_seq (wp_region ?_))
      refine sx_q _ _ _ rfl rfl rfl (by decide) hX rfl rfl fun a hX => ?_
      refine sx_q _ _ (.bool false) rfl rfl rfl (by decide) hX rfl (hop_bin rfl rfl (bin_eql (decide_eq_false h0))) fun a hX => ?_
      refine sx_false hX rfl (wp_skip ?_)
      exact ib_tail b hb (by omega) rfl hX
end Go.Vex
