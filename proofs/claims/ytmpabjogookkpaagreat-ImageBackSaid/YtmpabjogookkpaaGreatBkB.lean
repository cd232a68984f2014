/-
  Rows of operations as bytes: the walk.
  No condition.
-/
import Derived.Test.YtmpabjogookkpaaGreatBkA
import Derived.Test.YtmpabjogookkpaaGreatVxI
set_option linter.unusedVariables false
namespace Go.Vex
open Go.Proofs
set_option maxRecDepth 100000
theorem el_48 : elemOf Tryz.prog 48 = some 5 := by kernel_rfl
theorem gr_5 : growSize Tryz.prog 5 = some 1 := by kernel_rfl
theorem zc_5 : zeroCells Tryz.prog 5 = some [.int .u8 0] := by kernel_rfl
theorem zc_98 : zeroCells Tryz.prog 98 = some (cellsOp ⟨0, 0, 0, 0, 0, 0⟩) := by kernel_rfl
noncomputable abbrev c15 : Code := codeOf Tryz.f15
variable {ρ ρ0 : Rho} {H H0 : Hp} {w w0 : World} {a : Act} {Q : Exit → Act → World → Prop}
theorem u8_wrap (z : Int) : IntKind.u8.wrap z = z % 256 := by simp [IntKind.wrap, IntKind.bits, IntKind.signed]
theorem byteAt_wrap (s : Nat) (hs : s ≤ 64) (n : Int) : IntKind.u8.wrap (Int.fdiv n (.ofNat (Nat.pow 2 (Nat.min s IntKind.i64.bits)))) = (Img.byteAt s n : Int) := by
  have e1 : Nat.min s IntKind.i64.bits = s := Nat.min_eq_left hs
  rw [e1, u8_wrap]
  unfold Img.byteAt
  have e2 : (Int.ofNat (Nat.pow 2 s)) = (2 : Int) ^ s := by show ((2 ^ s : Nat) : Int) = _; simp
  have e3 : Int.fdiv n ((2 : Int) ^ s) = n / 2 ^ s := Int.fdiv_eq_ediv_of_nonneg _ (by rw [← e2]; exact Int.natCast_nonneg _)
  rw [e2, e3]
  have := Int.emod_nonneg (n / 2 ^ s) (show (256 : Int) ≠ 0 by decide)
  omega
/-- What is kept through a round: the row, its length, the place. -/
abbrev E15 (V : AV) (nl i : Int) (b len : Nat) : List (Nat × AV) := [(4, .slice b 0 len (.opn 1)), (15, V), (16, .int .i64 nl), (17, .int .i64 i)]
noncomputable abbrev lb15 : Code := loopB (blkB (seqR (seqL (seqR (seqR (seqR c15))))))
noncomputable abbrev bb15 : Code := blkB (seqL (seqR (seqR lb15)))
noncomputable abbrev x4 : Code := seqR (seqR (seqR (seqR bb15)))
noncomputable abbrev x5 : Code := seqR x4
noncomputable abbrev x6 : Code := seqR x5
noncomputable abbrev x7 : Code := seqR x6
noncomputable abbrev nb15 : Code := loopB (blkB (seqR (condT (seqR x7))))
abbrev No : Nat → Prop := fun _ => False
/-- The bytes of a number. -/
theorem enc_nl (o : Img.Op) (f : Img.Fm) (V : AV) (nl i : Int) (b0 b1 : Nat) : ∀ (j : Nat) (bs : List Nat) (b : Nat) (ρ : Rho) (H : Hp) (a : Act) (w : World), j ≤ 8 → bs.length + j ≤ 67108864 →
    Sx Tryz.prog ρ0 H0 w0 73 No [(b0, cellsOp o), (b1, cellsFm f), (b, bytesAV bs)] (listF ((11, .int .i64 (8 * (j : Int) - 8)) :: (6, .ptr b0 0) :: (8, .ptr b1 0) :: E15 V nl i b bs.length)) ρ H a w →
    (∀ b' ρ H a w, Sx Tryz.prog ρ0 H0 w0 73 No [(b0, cellsOp o), (b1, cellsFm f), (b', bytesAV (bs ++ Img.beN j o.n))] (listF (E15 V nl i b' (bs ++ Img.beN j o.n).length)) ρ H a w → Q .normal a w) →
    LoopWp Tryz.prog nb15 (Exit.inBlock 2 Q) a w := by
  intro j
  induction j with
  | zero =>
    intro bs b ρ H a w _ _ hX K
    have h0 : ¬ (0 : Int) ≤ 8 * ((0 : Nat) : Int) - 8 := by omega
    refine LoopWp.unroll (wp_seq (wp_seq (wp_region ?_)))
    refine sx_q _ _ _ rfl rfl rfl (by decide) hX rfl rfl fun a hX => ?_
    refine sx_q _ _ _ rfl rfl rfl (by decide) hX rfl (by first | exact hop_bin rfl rfl (bin_geq (by first | exact decide_eq_true (by assumption) | exact decide_eq_false (by assumption))) | rfl) fun a hX => ?_
    refine sx_false hX rfl (wp_exit ?_)
    refine then_exit (then_exit (inBlock_hit ?_))
    refine K b ρ H a w ?_
    have e : bs ++ Img.beN 0 o.n = bs := List.append_nil _
    rw [e]
    exact hX.slots (E15 V nl i b bs.length) ⟨rfl, rfl, rfl, rfl, trivial⟩
  | succ j ih =>
    intro bs b ρ H a w hj hlen hX K
    have h0 : (0 : Int) ≤ 8 * ((j + 1 : Nat) : Int) - 8 := by omega
    refine LoopWp.unroll (wp_seq (wp_seq (wp_region ?_)))
    refine sx_q _ _ _ rfl rfl rfl (by decide) hX rfl rfl fun a hX => ?_
    refine sx_q _ _ _ rfl rfl rfl (by decide) hX rfl (by first | exact hop_bin rfl rfl (bin_geq (by first | exact decide_eq_true (by assumption) | exact decide_eq_false (by assumption))) | rfl) fun a hX => ?_
    refine sx_true hX rfl (wp_skip ?_)
    have e1 : (8 * ((j + 1 : Nat) : Int) - 8) = Int.ofNat (8 * j) := by show _ = ((8 * j : Nat) : Int); omega
    rw [e1] at hX
    refine wp_seq (wp_block (wp_region ?_))
    refine sx_q _ _ _ rfl rfl rfl (by decide) hX rfl rfl fun a hX => ?_
    refine sx_q _ _ _ rfl rfl rfl (by decide) hX rfl (hop_field' fz_98_5 rfl) fun a hX => ?_
    refine sx_q _ _ _ rfl rfl rfl (by decide) hX rfl (by first | exact hop_load ty_2 rfl (hX.ld 0 rfl rfl) | exact hop_load ty_2 rfl (hX.ld 1 rfl rfl) | exact hop_load ty_2 rfl (hX.ld 2 rfl rfl)) fun a hX => ?_
    refine sx_q _ _ _ rfl rfl rfl (by decide) hX rfl rfl fun a hX => ?_
    refine sx_q _ _ _ rfl rfl rfl (by decide) hX rfl (hop_bin rfl rfl (bin_shr (y := 8 * j))) fun a hX => ?_
    refine sx_v _ _ (.int .u8 (Img.byteAt (8 * j) o.n : Int)) rfl rfl rfl (by decide) hX (by rw [← byteAt_wrap (8 * j) (by omega)]; exact hop_conv Tryz.underlying2 Tryz.underlying5 rfl) fun ρ a w hX => ?_
    refine sx_new _ _ (fun b => .slice b 0 1 (.fix 1)) [.int .u8 (Img.byteAt (8 * j) o.n : Int)] rfl rfl rfl (by decide) hX (hop_bslice el_48 sz_5 zc_5 rfl rfl rfl (by decide)) fun bt ρ H a w hX => ?_
    refine sx_app _ _ 2 b bs.length 1 (bytesAV bs) [.int .u8 (Img.byteAt (8 * j) o.n : Int)] rfl rfl rfl (by decide) hX rfl el_48 Tryz.underlying48 rfl gr_5 rfl rfl rfl (by simp [bytesAV]) rfl (by decide) (by omega) (hX.ldN 3 rfl (by simp) rfl) (by decide) fun b' ρ H a w hX => ?_
    refine sx_q _ _ _ rfl rfl rfl (by decide) hX rfl rfl fun a hX => ?_
    show ((seqR (seqR nb15)).wp _ _ _ _)
    refine wp_region ?_
    refine sx_q _ _ _ rfl rfl rfl (by decide) hX rfl rfl fun a hX => ?_
    have e2 : IntKind.i64.wrap (Int.ofNat (8 * j) - 8) = 8 * (j : Int) - 8 := by
      rw [IntWalk.i64_in _ ⟨by show _ ≤ ((8 * j : Nat) : Int) - 8; omega, by show ((8 * j : Nat) : Int) - 8 ≤ _; omega⟩]
      show ((8 * j : Nat) : Int) - 8 = _; omega
    refine sx_q _ _ (.int .i64 (8 * (j : Int) - 8)) rfl rfl rfl (by decide) hX rfl (by rw [← e2]; exact hop_bin rfl rfl bin_sub) fun a hX => ?_
    refine sx_q _ _ _ rfl rfl rfl (by decide) hX rfl rfl fun a hX => ?_
    have hb : bytesAV bs ++ [.int .u8 (Img.byteAt (8 * j) o.n : Int)] = bytesAV (bs ++ [Img.byteAt (8 * j) o.n]) := by simp [bytesAV]
    have hl : (bs ++ [Img.byteAt (8 * j) o.n]).length = bs.length + 1 := by simp
    refine ih (bs ++ [Img.byteAt (8 * j) o.n]) b' ρ H a w (by omega) (by rw [hl]; omega) ?_ ?_
    · rw [← hb, hl]
      exact (hX.keep3 0 1 2 (by decide) (by decide) (by decide) rfl rfl rfl).slots _ ⟨rfl, rfl, rfl, rfl, rfl, rfl, rfl, trivial⟩
    · intro b2 ρ H a w hX
      refine K b2 ρ H a w ?_
      have e3 : bs ++ [Img.byteAt (8 * j) o.n] ++ Img.beN j o.n = bs ++ Img.beN (j + 1) o.n := by simp [Img.beN]
      rw [← e3]; exact hX
end Go.Vex
namespace Go.Vex
open Go.Proofs
set_option maxRecDepth 100000
variable {ρ ρ0 : Rho} {H H0 : Hp} {w w0 : World} {a : Act} {Q : Exit → Act → World → Prop}
/-- The number. -/
theorem enc_x7 (o : Img.Op) (f : Img.Fm) (V : AV) (nl i : Int) {b0 b1 b : Nat} {bs : List Nat} (hlen : bs.length + 8 ≤ 67108864)
    (hX : Sx Tryz.prog ρ0 H0 w0 73 No [(b0, cellsOp o), (b1, cellsFm f), (b, bytesAV bs)] (listF ((6, .ptr b0 0) :: (8, .ptr b1 0) :: E15 V nl i b bs.length)) ρ H a w)
    (K : ∀ b' ρ H a w, Sx Tryz.prog ρ0 H0 w0 73 No [(b0, cellsOp o), (b1, cellsFm f), (b', bytesAV (bs ++ Img.numL f o))] (listF (E15 V nl i b' (bs ++ Img.numL f o).length)) ρ H a w → Q .normal a w) : x7.wp Tryz.prog Q a w := by
  refine wp_seq (wp_region ?_)
  obtain ⟨cal, regs, nn, least, most⟩ := f
  cases nn
  all_goals refine sx_q _ _ _ rfl rfl rfl (by decide) hX rfl (hop_field' fz_103_2 rfl) fun a hX => ?_
  all_goals refine sx_q _ _ _ rfl rfl rfl (by decide) hX rfl (by first | exact hop_load ty_4 rfl (hX.ld 0 rfl rfl) | exact hop_load ty_4 rfl (hX.ld 1 rfl rfl) | exact hop_load ty_4 rfl (hX.ld 2 rfl rfl)) fun a hX => ?_
  · refine sx_false hX rfl (wp_skip ?_)
    refine K b ρ H _ w ?_
    have e : bs ++ Img.numL ⟨cal, regs, false, least, most⟩ o = bs := List.append_nil _
    rw [e]
    exact hX.slots (E15 V nl i b bs.length) ⟨rfl, rfl, rfl, rfl, trivial⟩
  · refine sx_true hX rfl (wp_seq (wp_region ?_))
    refine sx_q _ _ _ rfl rfl rfl (by decide) hX rfl rfl fun a hX => ?_
    refine wp_block (LoopWp.wp ?_)
    refine enc_nl o ⟨cal, regs, true, least, most⟩ V nl i b0 b1 8 bs b ρ H _ w (by decide) (by omega) (hX.slots _ ⟨rfl, rfl, rfl, rfl, rfl, rfl, rfl, trivial⟩) K
/-- The registers. -/
theorem enc_x6 (o : Img.Op) (f : Img.Fm) (hr : f.regs ≤ 3) (V : AV) (nl i : Int) {b0 b1 b2 b : Nat} {bs : List Nat} (hlen : bs.length + 11 ≤ 67108864)
    (hX : Sx Tryz.prog ρ0 H0 w0 73 No [(b0, cellsOp o), (b1, cellsFm f), (b, bytesAV bs), (b2, [.int .u8 (o.a : Int), .int .u8 (o.b : Int), .int .u8 (o.r : Int)])] (listF ((6, .ptr b0 0) :: (8, .ptr b1 0) :: (10, .ptr b2 0) :: E15 V nl i b bs.length)) ρ H a w)
    (K : ∀ b' ρ H a w, Sx Tryz.prog ρ0 H0 w0 73 No [(b0, cellsOp o), (b1, cellsFm f), (b', bytesAV (bs ++ Img.regL f o ++ Img.numL f o))] (listF (E15 V nl i b' (bs ++ Img.regL f o ++ Img.numL f o).length)) ρ H a w → Q .normal a w) : x6.wp Tryz.prog Q a w := by
  refine wp_seq (wp_region ?_)
  refine sx_q _ _ _ rfl rfl rfl (by decide) hX rfl rfl fun a hX => ?_
  refine sx_q _ _ _ rfl rfl rfl (by decide) hX rfl (hop_field' fz_103_1 rfl) fun a hX => ?_
  refine sx_q _ _ _ rfl rfl rfl (by decide) hX rfl (by first | exact hop_load ty_3 rfl (hX.ld 0 rfl rfl) | exact hop_load ty_3 rfl (hX.ld 1 rfl rfl) | exact hop_load ty_3 rfl (hX.ld 2 rfl rfl)) fun a hX => ?_
  refine sx_q _ _ (.slice b2 0 f.regs (.fix 3)) rfl rfl rfl (by decide) hX rfl (hop_slice_hi Tryz.underlying106 sz_5 rfl rfl hr) fun a hX => ?_
  by_cases h0 : f.regs = 0
  · have e : bs ++ Img.regL f o = bs := by unfold Img.regL; rw [h0]; simp
    rw [e] at K
    refine sx_v _ _ (.slice b 0 bs.length (.opn 1)) rfl rfl rfl (by decide) hX (hop_app_none el_48 Tryz.underlying48 rfl gr_5 rfl rfl (by rw [h0]; rfl) (by omega) (hX.ldN 3 rfl (by simp) rfl)) fun ρ a w hX => ?_
    refine sx_q _ _ _ rfl rfl rfl (by decide) hX rfl rfl fun a hX => ?_
    exact enc_x7 o f V nl i (by omega) ((hX.keep3 0 1 2 (by decide) (by decide) (by decide) rfl rfl rfl).slots _ ⟨rfl, rfl, rfl, rfl, rfl, rfl, trivial⟩) K
  · have hb : bytesAV bs ++ ([.int .u8 (o.a : Int), .int .u8 (o.b : Int), .int .u8 (o.r : Int)] : List AV).take f.regs = bytesAV (bs ++ Img.regL f o) := by simp [bytesAV, Img.regL, List.map_take]
    have hl : (bs ++ Img.regL f o).length = bs.length + f.regs := by unfold Img.regL; simp; omega
    refine sx_app _ _ 2 b bs.length f.regs (bytesAV bs) (([.int .u8 (o.a : Int), .int .u8 (o.b : Int), .int .u8 (o.r : Int)] : List AV).take f.regs) rfl rfl rfl (by decide) hX rfl el_48 Tryz.underlying48 rfl gr_5 rfl rfl rfl (by simp [bytesAV]) rfl (by omega) (by omega) ?_ h0 fun b' ρ H a w hX => ?_
    · show iteB (Nat.ble f.regs f.regs) (H.loadN b2 0 (Nat.mul f.regs 1)) none = _
      have e1 : Nat.ble f.regs f.regs = true := by rw [Nat.ble_eq]; omega
      have e2 : Nat.mul f.regs 1 = f.regs := Nat.mul_one _
      rw [e1, e2]
      exact hX.ldN 3 rfl (by simp; omega) rfl
    rw [hb] at hX
    refine sx_q _ _ _ rfl rfl rfl (by decide) hX rfl rfl fun a hX => ?_
    refine enc_x7 (ρ := ρ) (H := H) o f V nl i (b := b') (bs := bs ++ Img.regL f o) (by rw [hl]; omega) ?_ K
    rw [hl]
    exact (hX.keep3 0 1 2 (by decide) (by decide) (by decide) rfl rfl rfl).slots _ ⟨rfl, rfl, rfl, rfl, rfl, rfl, trivial⟩
theorem enc_x5 (o : Img.Op) (f : Img.Fm) (hr : f.regs ≤ 3) (V : AV) (nl i : Int) {b0 b1 b : Nat} {bs : List Nat} (hlen : bs.length + 11 ≤ 67108864)
    (hX : Sx Tryz.prog ρ0 H0 w0 73 No [(b0, cellsOp o), (b1, cellsFm f), (b, bytesAV bs)] (listF ((6, .ptr b0 0) :: (8, .ptr b1 0) :: E15 V nl i b bs.length)) ρ H a w)
    (K : ∀ b' ρ H a w, Sx Tryz.prog ρ0 H0 w0 73 No [(b0, cellsOp o), (b1, cellsFm f), (b', bytesAV (bs ++ Img.regL f o ++ Img.numL f o))] (listF (E15 V nl i b' (bs ++ Img.regL f o ++ Img.numL f o).length)) ρ H a w → Q .normal a w) : x5.wp Tryz.prog Q a w := by
  refine wp_seq (wp_region ?_)
  refine sx_q _ _ _ rfl rfl rfl (by decide) hX rfl (hop_field' fz_98_2 rfl) fun a hX => ?_
  refine sx_q _ _ _ rfl rfl rfl (by decide) hX rfl (by first | exact hop_load ty_5 rfl (hX.ld 0 rfl rfl) | exact hop_load ty_5 rfl (hX.ld 1 rfl rfl) | exact hop_load ty_5 rfl (hX.ld 2 rfl rfl)) fun a hX => ?_
  refine sx_q _ _ _ rfl rfl rfl (by decide) hX rfl (hop_field' fz_98_3 rfl) fun a hX => ?_
  refine sx_q _ _ _ rfl rfl rfl (by decide) hX rfl (by first | exact hop_load ty_5 rfl (hX.ld 0 rfl rfl) | exact hop_load ty_5 rfl (hX.ld 1 rfl rfl) | exact hop_load ty_5 rfl (hX.ld 2 rfl rfl)) fun a hX => ?_
  refine sx_q _ _ _ rfl rfl rfl (by decide) hX rfl (hop_field' fz_98_4 rfl) fun a hX => ?_
  refine sx_q _ _ _ rfl rfl rfl (by decide) hX rfl (by first | exact hop_load ty_5 rfl (hX.ld 0 rfl rfl) | exact hop_load ty_5 rfl (hX.ld 1 rfl rfl) | exact hop_load ty_5 rfl (hX.ld 2 rfl rfl)) fun a hX => ?_
  refine sx_q _ _ _ rfl rfl rfl (by decide) hX rfl (hop_build_arr zc_106 Tryz.underlying106 sz_5 rfl) fun a hX => ?_
  refine sx_new _ _ (fun b => .ptr b 0) _ rfl rfl rfl (by decide) hX (hop_alloc zc_106) fun b2 ρ H a w hX => ?_   -- alloc 106
  refine sx_st _ 3 _ _ _ _ rfl rfl rfl hX rfl (by simp) (hop_storeN sz_106 rfl rfl rfl rfl) fun ρ H w hX => ?_
  exact enc_x6 o f hr V nl i hlen (hX.slots _ ⟨rfl, rfl, rfl, rfl, rfl, rfl, rfl, trivial⟩) K
/-- The operation, behind its kind. -/
theorem enc_x4 (o : Img.Op) (f : Img.Fm) (hr : f.regs ≤ 3) (V : AV) (nl i : Int) {b0 b1 b : Nat} {bs : List Nat} (hlen : bs.length + 12 ≤ 67108864)
    (hX : Sx Tryz.prog ρ0 H0 w0 73 No [(b0, cellsOp o), (b1, cellsFm f), (b, bytesAV bs)] (listF ((6, .ptr b0 0) :: (8, .ptr b1 0) :: E15 V nl i b bs.length)) ρ H a w)
    (K : ∀ b' ρ H a w, Sx Tryz.prog ρ0 H0 w0 73 No [(b0, cellsOp o), (b1, cellsFm f), (b', bytesAV (bs ++ Img.calL f o ++ Img.regL f o ++ Img.numL f o))] (listF (E15 V nl i b' (bs ++ Img.calL f o ++ Img.regL f o ++ Img.numL f o).length)) ρ H a w → Q .normal a w) : x4.wp Tryz.prog Q a w := by
  refine wp_seq (wp_seq (wp_region ?_))
  obtain ⟨cal, regs, nn, least, most⟩ := f
  cases cal
  all_goals refine sx_q _ _ _ rfl rfl rfl (by decide) hX rfl (hop_field' fz_103_0 rfl) fun a hX => ?_
  all_goals refine sx_q _ _ _ rfl rfl rfl (by decide) hX rfl (by first | exact hop_load ty_4 rfl (hX.ld 0 rfl rfl) | exact hop_load ty_4 rfl (hX.ld 1 rfl rfl) | exact hop_load ty_4 rfl (hX.ld 2 rfl rfl)) fun a hX => ?_
  · refine sx_false hX rfl (wp_skip ?_)
    have e : bs ++ Img.calL ⟨false, regs, nn, least, most⟩ o = bs := List.append_nil _
    rw [e] at K
    exact enc_x5 o _ hr V nl i (by omega) (hX.slots _ ⟨rfl, rfl, rfl, rfl, rfl, rfl, trivial⟩) K
  · refine sx_true hX rfl (wp_region ?_)
    refine sx_q _ _ _ rfl rfl rfl (by decide) hX rfl rfl fun a hX => ?_
    refine sx_q _ _ _ rfl rfl rfl (by decide) hX rfl (hop_field' fz_98_1 rfl) fun a hX => ?_
    refine sx_q _ _ _ rfl rfl rfl (by decide) hX rfl (by first | exact hop_load ty_96 rfl (hX.ld 0 rfl rfl) | exact hop_load ty_96 rfl (hX.ld 1 rfl rfl) | exact hop_load ty_96 rfl (hX.ld 2 rfl rfl)) fun a hX => ?_
    refine sx_new _ _ (fun b => .slice b 0 1 (.fix 1)) [.int .u8 (o.c : Int)] rfl rfl rfl (by decide) hX (hop_bslice el_48 sz_5 zc_5 rfl rfl rfl (by decide)) fun bt ρ H a w hX => ?_
    refine sx_app _ _ 2 b bs.length 1 (bytesAV bs) [.int .u8 (o.c : Int)] rfl rfl rfl (by decide) hX rfl el_48 Tryz.underlying48 rfl gr_5 rfl rfl rfl (by simp [bytesAV]) rfl (by decide) (by omega) (hX.ldN 3 rfl (by simp) rfl) (by decide) fun b' ρ H a w hX => ?_
    refine sx_q _ _ _ rfl rfl rfl (by decide) hX rfl rfl fun a hX => ?_
    have hb : bytesAV bs ++ [.int .u8 (o.c : Int)] = bytesAV (bs ++ [o.c]) := by simp [bytesAV]
    have hl : (bs ++ [o.c]).length = bs.length + 1 := by simp
    refine enc_x5 (ρ := ρ) (H := H) o ⟨true, regs, nn, least, most⟩ hr V nl i (b := b') (bs := bs ++ [o.c]) (by rw [hl]; omega) ?_ K
    rw [← hb, hl]
    exact (hX.keep3 0 1 2 (by decide) (by decide) (by decide) rfl rfl rfl).slots _ ⟨rfl, rfl, rfl, rfl, rfl, rfl, trivial⟩
end Go.Vex
namespace Go.Vex
open Go.Proofs
set_option maxRecDepth 100000
variable {ρ ρ0 : Rho} {H H0 : Hp} {w w0 : World} {a : Act} {Q : Exit → Act → World → Prop}
def RowOps (cs : List AV) (off : Nat) (l : List Img.Op) : Prop := ∀ (i : Nat) (o : Img.Op), l[i]? = some o → off + i * 6 + 6 ≤ cs.length ∧ (cs.drop (off + i * 6)).take 6 = cellsOp o
def SlOps (H : Hp) (V : AV) (l : List Img.Op) : Prop := (Nl V ∧ l = []) ∨ ∃ b off c cs, V = .slice b off l.length c ∧ b < H.next ∧ Rds (H.fn b) cs ∧ RowOps cs off l
def encAV (l : List Img.Op) : AV := if 262144 < l.length then .tup [.str [], .int .i64 3] else if l.all Img.okB then .tup [.str (Img.encL l), .int .i64 0] else .tup [.str [], .int .i64 1]
noncomputable abbrev Q15 (l : List Img.Op) (ρ0 : Rho) (H0 : Hp) (w0 : World) : Exit → Act → World → Prop := Exit.inBlock 0 (Exit.then ((seqR (seqR (seqR (seqR c15)))).wp Tryz.prog (bodyPostD Tryz.prog Tryz.f15 (Post ρ0 H0 w0 (Pure (encAV l) H0)))) (bodyPostD Tryz.prog Tryz.f15 (Post ρ0 H0 w0 (Pure (encAV l) H0))))
/-- The loop's end. -/
theorem enc_end (l : List Img.Op) (hl : l.length ≤ 262144) (hall : l.all Img.okB = true) (hw : ∀ o ∈ l, Wf o) {V : AV} {b : Nat}
    (hX : Sx Tryz.prog ρ0 H0 w0 73 No [(b, bytesAV (Img.encL l))] (listF (E15 V l.length l.length b (Img.encL l).length)) ρ H a w) : LoopWp Tryz.prog lb15 (Q15 l ρ0 H0 w0) a w := by
  have h0 : ¬ ((l.length : Int) < (l.length : Int)) := by omega
  refine LoopWp.unroll (wp_seq (wp_region ?_))
  refine sx_q _ _ _ rfl rfl rfl (by decide) hX rfl (by first | exact hop_bin rfl rfl (bin_lss (by first | exact decide_eq_true (by assumption) | exact decide_eq_false (by assumption))) | rfl) fun a hX => ?_
  refine wp_seq (sx_false hX rfl (wp_exit ?_))
  refine then_exit (then_exit (inBlock_hit ?_))
  show ((seqR (seqR (seqR (seqR c15)))).wp _ _ _ _)
  refine wp_seq (wp_region ?_)
  refine sx_q _ _ _ rfl rfl rfl (by decide) hX rfl rfl fun a hX => ?_
  refine sx_v _ _ (.str (Img.encL l)) rfl rfl rfl (by decide) hX (hop_str Tryz.underlying48 Tryz.underlying9 Tryz.underlying5 rfl (hX.ldN 0 rfl (by simp [bytesAV]) (by rw [List.drop_zero]; exact List.take_of_length_le (by simp [bytesAV]))) (mapO_bytes (Img.encL_lt hw))) fun ρ a w hX => ?_
  refine sx_q _ _ _ rfl rfl rfl (by decide) hX rfl rfl fun a hX => ?_
  refine sx_q _ _ _ rfl rfl rfl (by decide) hX rfl rfl fun a hX => ?_
  refine sx_ret2 2 3 _ _ hX rfl rfl rfl ?_ id
  have e : encAV l = .tup [.str (Img.encL l), .int .i64 0] := by unfold encAV; rw [if_neg (by omega), hall]; rfl
  rw [e]; exact hX.pure _
/-- A round behind the first. -/
theorem enc_rnd (l : List Img.Op) (hl : l.length ≤ 262144) (hwf : ∀ o ∈ l, Wf o) (V : AV) (hV : SlOps H0 V l) : ∀ (k i : Nat), i + k = l.length → 0 < i → ((l.take i).all Img.okB = true) → ∀ (b : Nat) (ρ : Rho) (H : Hp) (a : Act) (w : World),
    Sx Tryz.prog ρ0 H0 w0 73 No [(b, bytesAV (Img.encL (l.take i)))] (listF (E15 V l.length i b (Img.encL (l.take i)).length)) ρ H a w → LoopWp Tryz.prog lb15 (Q15 l ρ0 H0 w0) a w := by
  intro k
  induction k with
  | zero =>
    intro i hik h0 hall b ρ H a w hX
    have : i = l.length := by omega
    subst this
    rw [List.take_length] at hX hall
    exact enc_end l hl hall hwf hX
  | succ k ih =>
    intro i hik h0 hall b ρ H a w hX
    have hilt : i < l.length := by omega
    obtain ⟨o, ho⟩ : ∃ o, l[i]? = some o := ⟨l[i], by simp [hilt]⟩
    have hw : Wf o := hwf o (List.mem_of_getElem? ho)
    rcases hV with ⟨_, rfl⟩ | ⟨bl, ol, cl, cs, rfl, hlt, hc, hrow⟩
    · simp at hilt
    obtain ⟨hr1, hr2⟩ := hrow i o ho
    have hi : i < l.length := hilt
    have hcmp : (i : Int) < (l.length : Int) := by omega
    have hlen := Img.encL_len (l.take i)
    have hlt2 : (l.take i).length ≤ 262144 := by simp; omega
    have IH : Img.okB o = true → ∀ (b : Nat) (ρ : Rho) (H : Hp) (a : Act) (w : World), Sx Tryz.prog ρ0 H0 w0 73 No [(b, bytesAV (Img.encL (l.take (i + 1))))] (listF (E15 (.slice bl ol l.length cl) l.length (i + 1 : Nat) b (Img.encL (l.take (i + 1))).length)) ρ H a w → LoopWp Tryz.prog lb15 (Q15 l ρ0 H0 w0) a w :=
      fun hok => ih (i + 1) (by omega) (by omega) (by rw [Img.take_snoc ho]; simp [hok]; simpa using hall)
    refine LoopWp.unroll (wp_seq (wp_region ?_))
    refine sx_q _ _ _ rfl rfl rfl (by decide) hX rfl (by first | exact hop_bin rfl rfl (bin_lss (by first | exact decide_eq_true (by assumption) | exact decide_eq_false (by assumption))) | rfl) fun a hX => ?_
    refine wp_seq (sx_true hX rfl (wp_skip ?_))
    refine wp_seq (wp_block (wp_seq (wp_region ?_)))
    refine sx_q _ _ (.ptr bl (ol + i * 6)) rfl rfl rfl (by decide) hX rfl (hop_index ix_45 rfl rfl hi) fun a hX => ?_
    refine sx_q _ _ (opAV o) rfl rfl rfl (by decide) hX rfl (hop_loadN ty_98 rfl ((hX.old hc hlt (fun h => h)).loadN hr1 hr2)) fun a hX => ?_
    refine sx_new _ _ (fun b => .ptr b 0) _ rfl rfl rfl (by decide) hX (hop_alloc zc_98) fun b0 ρ H a w hX => ?_
    refine sx_st _ 1 b0 0 _ (cellsOp o) rfl rfl rfl hX rfl (by simp [cellsOp]) (hop_storeN sz_98 rfl rfl rfl rfl) fun ρ H w hX => ?_
    refine wp_seq (wp_seq (wp_region ?_))
    refine sx_q _ _ (opAV o) rfl rfl rfl (by decide) hX rfl (hop_loadN ty_98 rfl (hX.ldN 1 rfl (by simp [cellsOp]) rfl)) fun a hX => ?_
    refine sx_pure _ _ 32 [opAV o] (chkAV (Img.okB o)) rfl rfl rfl (by decide) hX (hop_callf en_32 rfl) (chk_spec o hw _) fun ρ H a w hX => ?_
    cases hok : Img.okB o with
    | false =>
      rw [hok] at hX
      refine sx_q _ _ _ rfl rfl rfl (by decide) hX rfl rfl fun a hX => ?_
      refine wp_seq (wp_region ?_)
      refine sx_q _ _ _ rfl rfl rfl (by decide) hX rfl rfl fun a hX => ?_
      refine sx_q _ _ _ rfl rfl rfl (by decide) hX rfl (by first | exact hop_bin rfl rfl (bin_neq_t (by assumption)) | exact hop_bin rfl rfl (bin_neq_f (by assumption)) | rfl) fun a hX => ?_
      refine sx_true hX rfl (wp_seq (wp_region ?_))
      refine sx_q _ _ _ rfl rfl rfl (by decide) hX rfl rfl fun a hX => ?_
      refine sx_q _ _ _ rfl rfl rfl (by decide) hX rfl rfl fun a hX => ?_
      refine sx_q _ _ _ rfl rfl rfl (by decide) hX rfl rfl fun a hX => ?_
      refine sx_ret2 2 3 _ _ hX rfl rfl rfl ?_ id
      have hbad : l.all Img.okB = false := by
        cases h : l.all Img.okB with
        | false => rfl
        | true => have := List.all_eq_true.1 h o (List.mem_of_getElem? ho); rw [hok] at this; cases this
      have e : encAV l = .tup [.str [], .int .i64 1] := by unfold encAV; rw [if_neg (by omega), hbad]; rfl
      rw [e]; exact hX.pure _
    | true =>
      rw [hok] at hX
      obtain ⟨f, hf⟩ : ∃ f, Img.formN o.k = some f := by
        unfold Img.okB at hok
        cases h : Img.formN o.k with
        | none => rw [h] at hok; cases hok
        | some f => exact ⟨f, rfl⟩
      have hfa : formAV o.k = .tup [fmAV f, .bool true] := by unfold formAV; rw [hf]
      refine sx_q _ _ _ rfl rfl rfl (by decide) hX rfl rfl fun a hX => ?_
      refine wp_seq (wp_region ?_)
      refine sx_q _ _ _ rfl rfl rfl (by decide) hX rfl rfl fun a hX => ?_
      refine sx_q _ _ _ rfl rfl rfl (by decide) hX rfl (by first | exact hop_bin rfl rfl (bin_neq_t (by assumption)) | exact hop_bin rfl rfl (bin_neq_f (by assumption)) | rfl) fun a hX => ?_
      refine sx_false hX rfl (wp_skip ?_)
      refine wp_seq (wp_region ?_)
      refine sx_q _ _ _ rfl rfl rfl (by decide) hX rfl (hop_field' fz_98_0 rfl) fun a hX => ?_
      refine sx_q _ _ _ rfl rfl rfl (by decide) hX rfl (by first | exact hop_load ty_95 rfl (hX.ld 0 rfl rfl) | exact hop_load ty_95 rfl (hX.ld 1 rfl rfl) | exact hop_load ty_95 rfl (hX.ld 2 rfl rfl)) fun a hX => ?_
      refine sx_pure _ _ 33 [.int .u8 (o.k : Int)] (formAV o.k) rfl rfl rfl (by decide) hX (hop_callf en_33 rfl) (form_spec o.k hw.1 _) fun ρ H a w hX => ?_
      rw [hfa] at hX
      refine sx_q _ _ _ rfl rfl rfl (by decide) hX rfl rfl fun a hX => ?_
      refine sx_q _ _ _ rfl rfl rfl (by decide) hX rfl rfl fun a hX => ?_
      refine sx_q _ _ _ rfl rfl rfl (by decide) hX rfl rfl fun a hX => ?_
      refine sx_new _ _ (fun b => .ptr b 0) _ rfl rfl rfl (by decide) hX (hop_alloc zc_103) fun b1 ρ H a w hX => ?_
      refine sx_st _ 2 b1 0 _ (cellsFm f) rfl rfl rfl hX rfl (by simp [cellsFm]) (hop_storeN sz_103 rfl rfl rfl rfl) fun ρ H w hX => ?_
      refine sx_q _ _ _ rfl rfl rfl (by decide) hX rfl rfl fun a hX => ?_
      refine wp_seq (wp_region ?_)
      refine sx_q _ _ _ rfl rfl rfl (by decide) hX rfl rfl fun a hX => ?_
      refine sx_q _ _ _ rfl rfl rfl (by decide) hX rfl (hop_field' fz_98_0 rfl) fun a hX => ?_
      refine sx_q _ _ _ rfl rfl rfl (by decide) hX rfl (by first | exact hop_load ty_95 rfl (hX.ld 0 rfl rfl) | exact hop_load ty_95 rfl (hX.ld 1 rfl rfl) | exact hop_load ty_95 rfl (hX.ld 2 rfl rfl)) fun a hX => ?_
      refine sx_new _ _ (fun b => .slice b 0 1 (.fix 1)) [.int .u8 (o.k : Int)] rfl rfl rfl (by decide) hX (hop_bslice el_48 sz_5 zc_5 rfl rfl rfl (by decide)) fun bt ρ H a w hX => ?_
      refine sx_app _ _ 0 b (Img.encL (l.take i)).length 1 (bytesAV (Img.encL (l.take i))) [.int .u8 (o.k : Int)] rfl rfl rfl (by decide) hX rfl el_48 Tryz.underlying48 rfl gr_5 rfl rfl rfl (by simp [bytesAV]) rfl (by decide) (by omega) (hX.ldN 3 rfl (by simp) rfl) (by decide) fun b' ρ H a w hX => ?_
      refine sx_q _ _ _ rfl rfl rfl (by decide) hX rfl rfl fun a hX => ?_
      have hb : bytesAV (Img.encL (l.take i)) ++ [.int .u8 (o.k : Int)] = bytesAV (Img.encL (l.take i) ++ [o.k]) := by simp [bytesAV]
      have hl1 : (Img.encL (l.take i) ++ [o.k]).length = (Img.encL (l.take i)).length + 1 := by simp
      have hX := (hX.keep3 1 2 0 (by decide) (by decide) (by decide) (p := (b0, cellsOp o)) (q := (b1, cellsFm f)) (r := (b', bytesAV (Img.encL (l.take i) ++ [o.k]))) rfl rfl (by rw [← hb]; rfl)).slots ((6, .ptr b0 0) :: (8, .ptr b1 0) :: E15 (.slice bl ol l.length cl) l.length i b' (Img.encL (l.take i) ++ [o.k]).length) ⟨rfl, rfl, by rw [hl1]; rfl, rfl, rfl, rfl, trivial⟩
      refine enc_x4 o f (Img.formN_regs hf) (.slice bl ol l.length cl) l.length i (by simp only [List.length_append, List.length_cons, List.length_nil]; omega) hX fun b2 ρ H a w hX => ?_
      have hE : Img.encL (l.take i) ++ [o.k] ++ Img.calL f o ++ Img.regL f o ++ Img.numL f o = Img.encL (l.take (i + 1)) := by
        rw [Img.encL_snoc ho, Img.encO_of hf]
        unfold Img.encF
        simp only [List.append_assoc]
      rw [hE] at hX
      have hX := hX.keep1 2 rfl
      show ((seqR (seqR (seqR lb15))).wp _ _ _ _)
      refine wp_region ?_
      have e2 : IntKind.i64.wrap ((i : Int) + Int.ofNat 1) = ((i + 1 : Nat) : Int) := by
        rw [IntWalk.i64_in _ ⟨by show _ ≤ (i : Int) + 1; omega, by show (i : Int) + 1 ≤ _; omega⟩]; rfl
      refine sx_q _ _ (.int .i64 ((i + 1 : Nat) : Int)) rfl rfl rfl (by decide) hX rfl (by rw [← e2]; exact hop_bin rfl rfl bin_add) fun a hX => ?_
      refine sx_q _ _ _ rfl rfl rfl (by decide) hX rfl rfl fun a hX => ?_
      exact IH hok b2 ρ H a w (hX.slots (E15 (.slice bl ol l.length cl) l.length (i + 1 : Nat) b2 (Img.encL (l.take (i + 1))).length) ⟨rfl, rfl, rfl, rfl, trivial⟩)

/-- The first round. -/
theorem enc_rnd0 (l : List Img.Op) (hl : l.length ≤ 262144) (hwf : ∀ o ∈ l, Wf o) (V : AV) (hV : SlOps H0 V l) (i : Nat) (hi0 : i = 0) (hX : Sx Tryz.prog ρ0 H0 w0 73 No [] (listF [(4, .nils), (15, V), (16, .int .i64 (l.length : Int)), (17, .int .i64 (i : Int))]) ρ H a w) : LoopWp Tryz.prog lb15 (Q15 l ρ0 H0 w0) a w := by
  cases hll : l with
  | nil =>
    subst hll
    have h0 : ¬ ((i : Int) < (([] : List Img.Op).length : Int)) := by simp
    refine LoopWp.unroll (wp_seq (wp_region ?_))
    refine sx_q _ _ _ rfl rfl rfl (by decide) hX rfl (by first | exact hop_bin rfl rfl (bin_lss (by first | exact decide_eq_true (by assumption) | exact decide_eq_false (by assumption))) | rfl) fun a hX => ?_
    refine wp_seq (sx_false hX rfl (wp_exit ?_))
    refine then_exit (then_exit (inBlock_hit ?_))
    show ((seqR (seqR (seqR (seqR c15)))).wp _ _ _ _)
    refine wp_seq (wp_region ?_)
    refine sx_q _ _ _ rfl rfl rfl (by decide) hX rfl rfl fun a hX => ?_
    refine sx_v _ _ (.str []) rfl rfl rfl (by decide) hX (hop_str0 Tryz.underlying48 Tryz.underlying9 Tryz.underlying5 rfl) fun ρ a w hX => ?_
    refine sx_q _ _ _ rfl rfl rfl (by decide) hX rfl rfl fun a hX => ?_
    refine sx_q _ _ _ rfl rfl rfl (by decide) hX rfl rfl fun a hX => ?_
    refine sx_ret2 2 3 _ _ hX rfl rfl rfl ?_ id
    exact hX.pure _
  | cons o' l' =>
    rw [← hll]
    have hilt : i < l.length := by rw [hll, hi0]; simp
    obtain ⟨o, ho⟩ : ∃ o, l[i]? = some o := ⟨l[i], by simp [hilt]⟩
    have hw : Wf o := hwf o (List.mem_of_getElem? ho)
    rcases hV with ⟨_, hn⟩ | ⟨bl, ol, cl, cs, rfl, hlt, hc, hrow⟩
    · rw [hn] at hll; cases hll
    obtain ⟨hr1, hr2⟩ := hrow i o ho
    have hi : i < l.length := hilt
    have hcmp : (i : Int) < (l.length : Int) := by omega
    have hlen := Img.encL_len (l.take i)
    have hlt2 : (l.take i).length ≤ 262144 := by simp; omega
    have IH : Img.okB o = true → ∀ (b : Nat) (ρ : Rho) (H : Hp) (a : Act) (w : World), Sx Tryz.prog ρ0 H0 w0 73 No [(b, bytesAV (Img.encL (l.take (i + 1))))] (listF (E15 (.slice bl ol l.length cl) l.length (i + 1 : Nat) b (Img.encL (l.take (i + 1))).length)) ρ H a w → LoopWp Tryz.prog lb15 (Q15 l ρ0 H0 w0) a w :=
      fun hok => enc_rnd l hl hwf _ (.inr ⟨bl, ol, cl, cs, rfl, hlt, hc, hrow⟩) (l.length - (i + 1)) (i + 1) (by omega) (by omega) (by rw [Img.take_snoc ho, hi0]; simp [hok])
    refine LoopWp.unroll (wp_seq (wp_region ?_))
    refine sx_q _ _ _ rfl rfl rfl (by decide) hX rfl (by first | exact hop_bin rfl rfl (bin_lss (by first | exact decide_eq_true (by assumption) | exact decide_eq_false (by assumption))) | rfl) fun a hX => ?_
    refine wp_seq (sx_true hX rfl (wp_skip ?_))
    refine wp_seq (wp_block (wp_seq (wp_region ?_)))
    refine sx_q _ _ (.ptr bl (ol + i * 6)) rfl rfl rfl (by decide) hX rfl (hop_index ix_45 rfl rfl hi) fun a hX => ?_
    refine sx_q _ _ (opAV o) rfl rfl rfl (by decide) hX rfl (hop_loadN ty_98 rfl ((hX.old hc hlt (fun h => h)).loadN hr1 hr2)) fun a hX => ?_
    refine sx_new _ _ (fun b => .ptr b 0) _ rfl rfl rfl (by decide) hX (hop_alloc zc_98) fun b0 ρ H a w hX => ?_
    refine sx_st _ 0 b0 0 _ (cellsOp o) rfl rfl rfl hX rfl (by simp [cellsOp]) (hop_storeN sz_98 rfl rfl rfl rfl) fun ρ H w hX => ?_
    refine wp_seq (wp_seq (wp_region ?_))
    refine sx_q _ _ (opAV o) rfl rfl rfl (by decide) hX rfl (hop_loadN ty_98 rfl (hX.ldN 0 rfl (by simp [cellsOp]) rfl)) fun a hX => ?_
    refine sx_pure _ _ 32 [opAV o] (chkAV (Img.okB o)) rfl rfl rfl (by decide) hX (hop_callf en_32 rfl) (chk_spec o hw _) fun ρ H a w hX => ?_
    cases hok : Img.okB o with
    | false =>
      rw [hok] at hX
      refine sx_q _ _ _ rfl rfl rfl (by decide) hX rfl rfl fun a hX => ?_
      refine wp_seq (wp_region ?_)
      refine sx_q _ _ _ rfl rfl rfl (by decide) hX rfl rfl fun a hX => ?_
      refine sx_q _ _ _ rfl rfl rfl (by decide) hX rfl (by first | exact hop_bin rfl rfl (bin_neq_t (by assumption)) | exact hop_bin rfl rfl (bin_neq_f (by assumption)) | rfl) fun a hX => ?_
      refine sx_true hX rfl (wp_seq (wp_region ?_))
      refine sx_q _ _ _ rfl rfl rfl (by decide) hX rfl rfl fun a hX => ?_
      refine sx_q _ _ _ rfl rfl rfl (by decide) hX rfl rfl fun a hX => ?_
      refine sx_q _ _ _ rfl rfl rfl (by decide) hX rfl rfl fun a hX => ?_
      refine sx_ret2 2 3 _ _ hX rfl rfl rfl ?_ id
      have hbad : l.all Img.okB = false := by
        cases h : l.all Img.okB with
        | false => rfl
        | true => have := List.all_eq_true.1 h o (List.mem_of_getElem? ho); rw [hok] at this; cases this
      have e : encAV l = .tup [.str [], .int .i64 1] := by unfold encAV; rw [if_neg (by omega), hbad]; rfl
      rw [e]; exact hX.pure _
    | true =>
      rw [hok] at hX
      obtain ⟨f, hf⟩ : ∃ f, Img.formN o.k = some f := by
        unfold Img.okB at hok
        cases h : Img.formN o.k with
        | none => rw [h] at hok; cases hok
        | some f => exact ⟨f, rfl⟩
      have hfa : formAV o.k = .tup [fmAV f, .bool true] := by unfold formAV; rw [hf]
      refine sx_q _ _ _ rfl rfl rfl (by decide) hX rfl rfl fun a hX => ?_
      refine wp_seq (wp_region ?_)
      refine sx_q _ _ _ rfl rfl rfl (by decide) hX rfl rfl fun a hX => ?_
      refine sx_q _ _ _ rfl rfl rfl (by decide) hX rfl (by first | exact hop_bin rfl rfl (bin_neq_t (by assumption)) | exact hop_bin rfl rfl (bin_neq_f (by assumption)) | rfl) fun a hX => ?_
      refine sx_false hX rfl (wp_skip ?_)
      refine wp_seq (wp_region ?_)
      refine sx_q _ _ _ rfl rfl rfl (by decide) hX rfl (hop_field' fz_98_0 rfl) fun a hX => ?_
      refine sx_q _ _ _ rfl rfl rfl (by decide) hX rfl (by first | exact hop_load ty_95 rfl (hX.ld 0 rfl rfl) | exact hop_load ty_95 rfl (hX.ld 1 rfl rfl) | exact hop_load ty_95 rfl (hX.ld 2 rfl rfl)) fun a hX => ?_
      refine sx_pure _ _ 33 [.int .u8 (o.k : Int)] (formAV o.k) rfl rfl rfl (by decide) hX (hop_callf en_33 rfl) (form_spec o.k hw.1 _) fun ρ H a w hX => ?_
      rw [hfa] at hX
      refine sx_q _ _ _ rfl rfl rfl (by decide) hX rfl rfl fun a hX => ?_
      refine sx_q _ _ _ rfl rfl rfl (by decide) hX rfl rfl fun a hX => ?_
      refine sx_q _ _ _ rfl rfl rfl (by decide) hX rfl rfl fun a hX => ?_
      refine sx_new _ _ (fun b => .ptr b 0) _ rfl rfl rfl (by decide) hX (hop_alloc zc_103) fun b1 ρ H a w hX => ?_
      refine sx_st _ 1 b1 0 _ (cellsFm f) rfl rfl rfl hX rfl (by simp [cellsFm]) (hop_storeN sz_103 rfl rfl rfl rfl) fun ρ H w hX => ?_
      refine sx_q _ _ _ rfl rfl rfl (by decide) hX rfl rfl fun a hX => ?_
      refine wp_seq (wp_region ?_)
      refine sx_q _ _ _ rfl rfl rfl (by decide) hX rfl rfl fun a hX => ?_
      refine sx_q _ _ _ rfl rfl rfl (by decide) hX rfl (hop_field' fz_98_0 rfl) fun a hX => ?_
      refine sx_q _ _ _ rfl rfl rfl (by decide) hX rfl (by first | exact hop_load ty_95 rfl (hX.ld 0 rfl rfl) | exact hop_load ty_95 rfl (hX.ld 1 rfl rfl) | exact hop_load ty_95 rfl (hX.ld 2 rfl rfl)) fun a hX => ?_
      refine sx_new _ _ (fun b => .slice b 0 1 (.fix 1)) [.int .u8 (o.k : Int)] rfl rfl rfl (by decide) hX (hop_bslice el_48 sz_5 zc_5 rfl rfl rfl (by decide)) fun bt ρ H a w hX => ?_
      refine sx_app0 _ _ 1 [.int .u8 (o.k : Int)] rfl rfl rfl (by decide) hX rfl el_48 Tryz.underlying48 rfl gr_5 rfl rfl rfl (by decide) (hX.ldN 2 rfl (by simp) rfl) (by decide) fun b' ρ H a w hX => ?_
      refine sx_q _ _ _ rfl rfl rfl (by decide) hX rfl rfl fun a hX => ?_
      have hb : bytesAV [o.k] = [.int .u8 (o.k : Int)] := rfl
      have hbs : Img.encL (l.take i) = [] := by rw [hi0]; rfl
      have hX := (hX.keep3 0 1 3 (by decide) (by decide) (by decide) (p := (b0, cellsOp o)) (q := (b1, cellsFm f)) (r := (b', bytesAV (Img.encL (l.take i) ++ [o.k]))) rfl rfl (by rw [hbs]; rfl)).slots ((6, .ptr b0 0) :: (8, .ptr b1 0) :: E15 (.slice bl ol l.length cl) l.length i b' (Img.encL (l.take i) ++ [o.k]).length) ⟨rfl, rfl, by rw [hbs]; rfl, rfl, rfl, rfl, trivial⟩
      refine enc_x4 o f (Img.formN_regs hf) (.slice bl ol l.length cl) l.length i (by simp only [List.length_append, List.length_cons, List.length_nil]; omega) hX fun b2 ρ H a w hX => ?_
      have hE : Img.encL (l.take i) ++ [o.k] ++ Img.calL f o ++ Img.regL f o ++ Img.numL f o = Img.encL (l.take (i + 1)) := by
        rw [Img.encL_snoc ho, Img.encO_of hf]
        unfold Img.encF
        simp only [List.append_assoc]
      rw [hE] at hX
      have hX := hX.keep1 2 rfl
      show ((seqR (seqR (seqR lb15))).wp _ _ _ _)
      refine wp_region ?_
      have e2 : IntKind.i64.wrap ((i : Int) + Int.ofNat 1) = ((i + 1 : Nat) : Int) := by
        rw [IntWalk.i64_in _ ⟨by show _ ≤ (i : Int) + 1; omega, by show (i : Int) + 1 ≤ _; omega⟩]; rfl
      refine sx_q _ _ (.int .i64 ((i + 1 : Nat) : Int)) rfl rfl rfl (by decide) hX rfl (by rw [← e2]; exact hop_bin rfl rfl bin_add) fun a hX => ?_
      refine sx_q _ _ _ rfl rfl rfl (by decide) hX rfl rfl fun a hX => ?_
      exact IH hok b2 ρ H a w (hX.slots (E15 (.slice bl ol l.length cl) l.length (i + 1 : Nat) b2 (Img.encL (l.take (i + 1))).length) ⟨rfl, rfl, rfl, rfl, trivial⟩)

/-- isa.Encode. -/
theorem enc_spec (l : List Img.Op) (hwf : ∀ o ∈ l, Wf o) (V : AV) (hV : SlOps H V l) : Spec Tryz.prog 15 [V] H (Pure (encAV l) H) := by
  refine spec_body0 73 Tryz.func15 rfl Tryz.ntmps15 (by simp) fun ρ w a hX => ?_
  refine wp_seq (wp_region ?_)
  refine sx_q _ _ _ rfl rfl rfl (by decide) hX rfl rfl fun a hX => ?_
  refine sx_q _ _ _ rfl rfl rfl (by decide) hX rfl rfl fun a hX => ?_
  refine wp_seq (wp_seq (wp_region ?_))
  refine sx_q _ _ _ rfl rfl rfl (by decide) hX rfl rfl fun a hX => ?_
  have hlenV : opA Tryz.prog (.call ⟨.builtin .len, ⟨[.tmp 12]⟩, ⟨[45]⟩⟩) (envF (upd (upd (upd (argF [V]) 2 (.str [])) 3 (.int .i64 (.ofNat 0))) 12 V)) H = some (.val (.int .i64 (l.length : Int)) H) := by
    rcases hV with ⟨hnl, rfl⟩ | ⟨bl, ol, cl, cs, rfl, _⟩
    · exact hop_len_nl hnl Tryz.underlying45 rfl
    · exact hop_len Tryz.underlying45 rfl
  refine sx_q _ _ (.int .i64 (l.length : Int)) rfl rfl rfl (by decide) hX rfl hlenV fun a hX => ?_
  by_cases h1 : (262144 : Int) < (l.length : Int)
  all_goals refine sx_q _ _ _ rfl rfl rfl (by decide) hX rfl (by first | exact hop_bin rfl rfl (bin_gtr (by first | exact decide_eq_true (by assumption) | exact decide_eq_false (by assumption))) | rfl) fun a hX => ?_
  · refine sx_true hX rfl (wp_seq (wp_region ?_))
    refine sx_q _ _ _ rfl rfl rfl (by decide) hX rfl rfl fun a hX => ?_
    refine sx_q _ _ _ rfl rfl rfl (by decide) hX rfl rfl fun a hX => ?_
    refine sx_ret2 2 3 _ _ hX rfl rfl rfl ?_ id
    have e : encAV l = .tup [.str [], .int .i64 3] := by unfold encAV; rw [if_pos (by omega)]
    rw [e]; exact hX.pure _
  · refine sx_false hX rfl (wp_skip ?_)
    refine wp_seq (wp_region ?_)
    refine sx_q _ _ _ rfl rfl rfl (by decide) hX rfl rfl fun a hX => ?_
    refine wp_seq (wp_seq (wp_region ?_))
    refine sx_q _ _ _ rfl rfl rfl (by decide) hX rfl rfl fun a hX => ?_
    have hlenV2 : ∀ F : SlF, F 15 = some V → opA Tryz.prog (.call ⟨.builtin .len, ⟨[.tmp 15]⟩, ⟨[45]⟩⟩) (envF F) H = some (.val (.int .i64 (l.length : Int)) H) := by
      intro F hF
      rcases hV with ⟨hnl, rfl⟩ | ⟨bl, ol, cl, cs, rfl, _⟩
      · exact hop_len_nl hnl Tryz.underlying45 hF
      · exact hop_len Tryz.underlying45 hF
    refine sx_q _ _ (.int .i64 (l.length : Int)) rfl rfl rfl (by decide) hX rfl (hlenV2 _ rfl) fun a hX => ?_
    refine sx_q _ _ _ rfl rfl rfl (by decide) hX rfl rfl fun a hX => ?_
    refine wp_block (LoopWp.wp ?_)
    exact enc_rnd0 l (by omega) hwf V hV 0 rfl (hX.slots [(4, .nils), (15, V), (16, .int .i64 (l.length : Int)), (17, .int .i64 ((0 : Nat) : Int))] ⟨rfl, rfl, rfl, rfl, trivial⟩)
end Go.Vex
