/-
  Operations: their forms, and the check of one.
  No condition.
-/
import Derived.Test.YtmpabjogookkpaaGreatVxI
import Derived.Test.YtmpabjogookkpaaGreatRows
import Derived.Test.YtmpabjogookkpaaGreatVxO
import Derived.Test.YtmpabjogookkpaaGreatVxH
set_option linter.unusedVariables false
namespace Go.Img
/-! ### What the code says of an operation's form, in plain words -/
structure Fm where
  cal : Bool
  regs : Nat
  n : Bool
  least : Int
  most : Int
def lo : Int := -9223372036854775808
def hi : Int := 9223372036854775807
def formN (k : Nat) : Option Fm :=
  match k with
  | 1 => some ⟨false, 1, true, lo, hi⟩
  | 2 => some ⟨false, 2, false, lo, hi⟩
  | 3 => some ⟨true, 2, false, lo, hi⟩
  | 4 => some ⟨false, 2, true, lo, hi⟩
  | 5 => some ⟨false, 2, true, lo, hi⟩
  | 6 => some ⟨false, 0, true, 0, 262144⟩
  | 7 => some ⟨false, 1, true, 0, 262144⟩
  | 8 => some ⟨false, 3, true, lo, hi⟩
  | 9 => some ⟨false, 2, true, lo, hi⟩
  | 10 => some ⟨false, 0, false, lo, hi⟩
  | 11 => some ⟨false, 1, false, lo, hi⟩
  | 12 => some ⟨false, 2, true, 1, 8⟩
  | 13 => some ⟨false, 0, true, 2, 8⟩
  | 14 => some ⟨false, 0, false, lo, hi⟩
  | 15 => some ⟨false, 2, true, lo, hi⟩
  | _ => none
structure Op where
  k : Nat
  c : Nat
  a : Nat
  b : Nat
  r : Nat
  n : Int
/-- May a register be the i-th? -/
def regB (f : Fm) (i x : Nat) : Bool := if i < f.regs then decide (x < 8) else decide (x = 0)
def numB (f : Fm) (n : Int) : Bool := if f.n then decide (f.least ≤ n) && decide (n ≤ f.most) else decide (n = 0)
def calcB (f : Fm) (c : Nat) : Bool := (f.cal == decide (c ≠ 0)) && decide (c ≤ 14)
def okB (o : Op) : Bool := match formN o.k with
  | none => false
  | some f => calcB f o.c && (regB f 0 o.a && (regB f 1 o.b && regB f 2 o.r) && numB f o.n)
end Go.Img
namespace Go.Img
/-! ### Bytes -/
def byteAt (s : Nat) (n : Int) : Nat := (n / 2 ^ s % 256).toNat
theorem byteAt_lt (s : Nat) (n : Int) : byteAt s n < 256 := by
  unfold byteAt
  have h1 := Int.emod_lt_of_pos (n / 2 ^ s) (show (0 : Int) < 256 by decide)
  have h2 := Int.emod_nonneg (n / 2 ^ s) (show (256 : Int) ≠ 0 by decide)
  omega
/-- The j low bytes, the highest first. -/
def beN : Nat → Int → List Nat
  | 0, _ => []
  | j + 1, n => byteAt (8 * j) n :: beN j n
theorem beN_len : ∀ j n, (beN j n).length = j := by
  intro j n
  induction j with
  | zero => rfl
  | succ j ih => simp [beN, ih]
theorem beN_lt : ∀ j n, ∀ c ∈ beN j n, c < 256 := by
  intro j n
  induction j with
  | zero => intro c h; cases h
  | succ j ih =>
    intro c h
    rcases List.mem_cons.1 h with rfl | h
    · exact byteAt_lt _ _
    · exact ih c h
def calL (f : Fm) (o : Op) : List Nat := if f.cal then [o.c] else []
def regL (f : Fm) (o : Op) : List Nat := [o.a, o.b, o.r].take f.regs
def numL (f : Fm) (o : Op) : List Nat := if f.n then beN 8 o.n else []
def encF (f : Fm) (o : Op) : List Nat := [o.k] ++ calL f o ++ regL f o ++ numL f o
def encO (o : Op) : List Nat := match formN o.k with | some f => encF f o | none => []
def encL (l : List Op) : List Nat := (l.map encO).flatten
theorem formN_regs {k : Nat} {f : Fm} (h : formN k = some f) : f.regs ≤ 3 := by
  unfold formN at h
  split at h <;> first | (injection h with h; subst h; decide) | cases h
theorem encF_len {k : Nat} {f : Fm} (h : formN k = some f) (o : Op) : (encF f o).length ≤ 13 := by
  have := formN_regs h
  unfold encF calL regL numL
  have h1 : (if f.cal then [o.c] else []).length ≤ 1 := by split <;> simp
  have h2 : (([o.a, o.b, o.r] : List Nat).take f.regs).length ≤ 3 := by simp; omega
  have h3 : (if f.n then beN 8 o.n else []).length ≤ 8 := by split <;> simp [beN_len]
  simp only [List.length_append, List.length_cons, List.length_nil]
  omega
theorem encO_len (o : Op) : (encO o).length ≤ 13 := by
  unfold encO
  split
  · rename_i f h; exact encF_len h o
  · simp
theorem encL_len (l : List Op) : (encL l).length ≤ 13 * l.length := by
  induction l with
  | nil => simp [encL]
  | cons o l ih =>
    have : encL (o :: l) = encO o ++ encL l := rfl
    rw [this, List.length_append]
    have := encO_len o
    simp; omega
end Go.Img
namespace Go.Img
theorem encO_of {o : Op} {f : Fm} (h : formN o.k = some f) : encO o = encF f o := by unfold encO; rw [h]
theorem take_snoc {l : List Op} {i : Nat} {o : Op} (h : l[i]? = some o) : l.take (i + 1) = l.take i ++ [o] := by
  rw [List.take_add_one, h]; rfl
theorem encL_app (l k : List Op) : encL (l ++ k) = encL l ++ encL k := by simp [encL]
theorem encL_snoc {l : List Op} {i : Nat} {o : Op} (h : l[i]? = some o) : encL (l.take (i + 1)) = encL (l.take i) ++ encO o := by
  rw [take_snoc h, encL_app]; simp [encL]
theorem encO_lt {o : Op} (h : o.k < 256 ∧ o.c < 256 ∧ o.a < 256 ∧ o.b < 256 ∧ o.r < 256) : ∀ c ∈ encO o, c < 256 := by
  intro c hc
  unfold encO at hc
  split at hc
  · rename_i f hf
    unfold encF calL regL numL at hc
    simp only [List.mem_append] at hc
    rcases hc with ((hc | hc) | hc) | hc
    · simp at hc; omega
    · split at hc
      · simp at hc; omega
      · cases hc
    · have := List.mem_of_mem_take hc
      simp at this; omega
    · split at hc
      · exact beN_lt _ _ c hc
      · cases hc
  · cases hc
theorem encL_lt {l : List Op} (h : ∀ o ∈ l, o.k < 256 ∧ o.c < 256 ∧ o.a < 256 ∧ o.b < 256 ∧ o.r < 256) : ∀ c ∈ encL l, c < 256 := by
  intro c hc
  unfold encL at hc
  obtain ⟨x, hx, hcx⟩ := List.mem_flatten.1 hc
  obtain ⟨o, ho, rfl⟩ := List.mem_map.1 hx
  exact encO_lt (h o ho) c hcx
end Go.Img
namespace Go.Img
/-! ### Bytes are read -/
def setR (o : Op) (i x : Nat) : Op := match i with | 0 => { o with a := x } | 1 => { o with b := x } | _ => { o with r := x }
def stepR (f : Fm) (i : Nat) (p : Op × List Nat) : Op × List Nat := if i < f.regs then (setR p.1 i (p.2.headD 0), p.2.tail) else p
def wrapI (z : Int) : Int := (z + 9223372036854775808) % 18446744073709551616 - 9223372036854775808
def stepN (n : Int) (b : Nat) : Int := wrapI (n * 256 + b)
end Go.Img
namespace Go.Img
def cal0 (f : Fm) (p : Op × List Nat) : Op × List Nat := if f.cal then ({ p.1 with c := p.2.headD 0 }, p.2.tail) else p
def regs3 (f : Fm) (p : Op × List Nat) : Op × List Nat := stepR f 2 (stepR f 1 (stepR f 0 p))
def num8 (f : Fm) (p : Op × List Nat) : Op := if f.n then { p.1 with n := (p.2.take 8).foldl stepN p.1.n } else p.1
def decO (f : Fm) (k : Nat) (rest : List Nat) : Op := num8 f (regs3 f (cal0 f (⟨k, 0, 0, 0, 0, 0⟩, rest)))
def need (f : Fm) : Nat := f.regs + (if f.cal then 1 else 0) + (if f.n then 8 else 0)
end Go.Img
namespace Go.Vex
open Go.Proofs
set_option maxRecDepth 100000
theorem fz_103_0 : fieldSz Tryz.prog 103 0 = some (0, 1) := by kernel_rfl
theorem fz_103_1 : fieldSz Tryz.prog 103 1 = some (1, 1) := by kernel_rfl
theorem fz_103_2 : fieldSz Tryz.prog 103 2 = some (2, 1) := by kernel_rfl
theorem fz_103_3 : fieldSz Tryz.prog 103 3 = some (3, 1) := by kernel_rfl
theorem fz_103_4 : fieldSz Tryz.prog 103 4 = some (4, 1) := by kernel_rfl
theorem fz_25_0 : fieldSz Tryz.prog 25 0 = some (0, 1) := by kernel_rfl
theorem fz_25_1 : fieldSz Tryz.prog 25 1 = some (1, 1) := by kernel_rfl
theorem fz_25_2 : fieldSz Tryz.prog 25 2 = some (2, 1) := by kernel_rfl
theorem fz_52_0 : fieldSz Tryz.prog 52 0 = some (0, 1) := by kernel_rfl
theorem fz_52_1 : fieldSz Tryz.prog 52 1 = some (1, 1) := by kernel_rfl
theorem fz_57_0 : fieldSz Tryz.prog 57 0 = some (0, 1) := by kernel_rfl
theorem fz_57_1 : fieldSz Tryz.prog 57 1 = some (1, 1) := by kernel_rfl
theorem fz_98_0 : fieldSz Tryz.prog 98 0 = some (0, 1) := by kernel_rfl
theorem fz_98_1 : fieldSz Tryz.prog 98 1 = some (1, 1) := by kernel_rfl
theorem fz_98_2 : fieldSz Tryz.prog 98 2 = some (2, 1) := by kernel_rfl
theorem fz_98_3 : fieldSz Tryz.prog 98 3 = some (3, 1) := by kernel_rfl
theorem fz_98_4 : fieldSz Tryz.prog 98 4 = some (4, 1) := by kernel_rfl
theorem fz_98_5 : fieldSz Tryz.prog 98 5 = some (5, 1) := by kernel_rfl
theorem ty_103 : tyA Tryz.prog 103 = some (true, 5) := by kernel_rfl
theorem ty_2 : tyA Tryz.prog 2 = some (false, 1) := by kernel_rfl
theorem ty_22 : tyA Tryz.prog 22 = some (false, 1) := by kernel_rfl
theorem ty_23 : tyA Tryz.prog 23 = some (false, 1) := by kernel_rfl
theorem ty_25 : tyA Tryz.prog 25 = some (true, 3) := by kernel_rfl
theorem ty_3 : tyA Tryz.prog 3 = some (false, 1) := by kernel_rfl
theorem ty_4 : tyA Tryz.prog 4 = some (false, 1) := by kernel_rfl
theorem ty_45 : tyA Tryz.prog 45 = some (false, 1) := by kernel_rfl
theorem ty_49 : tyA Tryz.prog 49 = some (false, 1) := by kernel_rfl
theorem ty_5 : tyA Tryz.prog 5 = some (false, 1) := by kernel_rfl
theorem ty_52 : tyA Tryz.prog 52 = some (true, 2) := by kernel_rfl
theorem ty_9 : tyA Tryz.prog 9 = some (false, 1) := by kernel_rfl
theorem ty_95 : tyA Tryz.prog 95 = some (false, 1) := by kernel_rfl
theorem ty_96 : tyA Tryz.prog 96 = some (false, 1) := by kernel_rfl
theorem ty_98 : tyA Tryz.prog 98 = some (true, 6) := by kernel_rfl
theorem sz_103 : size Tryz.prog 103 = some 5 := by kernel_rfl
theorem sz_106 : size Tryz.prog 106 = some 3 := by kernel_rfl
theorem sz_2 : size Tryz.prog 2 = some 1 := by kernel_rfl
theorem sz_22 : size Tryz.prog 22 = some 1 := by kernel_rfl
theorem sz_23 : size Tryz.prog 23 = some 1 := by kernel_rfl
theorem sz_25 : size Tryz.prog 25 = some 3 := by kernel_rfl
theorem sz_3 : size Tryz.prog 3 = some 1 := by kernel_rfl
theorem sz_4 : size Tryz.prog 4 = some 1 := by kernel_rfl
theorem sz_45 : size Tryz.prog 45 = some 1 := by kernel_rfl
theorem sz_49 : size Tryz.prog 49 = some 1 := by kernel_rfl
theorem sz_5 : size Tryz.prog 5 = some 1 := by kernel_rfl
theorem sz_52 : size Tryz.prog 52 = some 2 := by kernel_rfl
theorem sz_9 : size Tryz.prog 9 = some 1 := by kernel_rfl
theorem sz_95 : size Tryz.prog 95 = some 1 := by kernel_rfl
theorem sz_96 : size Tryz.prog 96 = some 1 := by kernel_rfl
theorem sz_98 : size Tryz.prog 98 = some 6 := by kernel_rfl
theorem ix_22 : ixKind Tryz.prog 22 = some (.slc 1) := by kernel_rfl
theorem ix_23 : ixKind Tryz.prog 23 = some (.slc 2) := by kernel_rfl
theorem ix_44 : ixKind Tryz.prog 44 = some (.slc 1) := by kernel_rfl
theorem ix_45 : ixKind Tryz.prog 45 = some (.slc 6) := by kernel_rfl
theorem ix_48 : ixKind Tryz.prog 48 = some (.slc 1) := by kernel_rfl
end Go.Vex
namespace Go.Vex
open Go.Proofs
def R2.mskT : T Nat := (.node 0 (.node 0 (.node 4759259971017736484343 (.node 144642955670490815 (.node 720576215274474973 (.node 7 (.node 1 (.node 19 .leaf .leaf) (.node 0 .leaf .leaf)) (.node 7 (.node 7 .leaf .leaf) .leaf)) (.node 39 (.node 154742507216519941624694783 (.node 5 .leaf .leaf) .leaf) (.node 335 (.node 3 .leaf .leaf) .leaf))) (.node 1 (.node 3 (.node 16413 (.node 15 .leaf .leaf) .leaf) (.node 7 (.node 1 .leaf .leaf) .leaf)) (.node 140737488373759 (.node 2417851783344575777607423 (.node 78599363469897180553692103 .leaf .leaf) .leaf) (.node 335 (.node 0 .leaf .leaf) .leaf)))) (.node 9922871984139892312667848095 (.node 1048627 (.node 4123200070335 (.node 67339295 (.node 3 .leaf .leaf) (.node 0 .leaf .leaf)) (.node 15 (.node 15 .leaf .leaf) .leaf)) (.node 1087 (.node 111 (.node 19 .leaf .leaf) .leaf) (.node 847 (.node 0 .leaf .leaf) .leaf))) (.node 79 (.node 251674685 (.node 8796126577471 (.node 51 .leaf .leaf) .leaf) (.node 335 (.node 13 .leaf .leaf) .leaf)) (.node 8646911284803010653 (.node 7 (.node 2334035 .leaf .leaf) .leaf) (.node 19 (.node 0 .leaf .leaf) .leaf))))) (.node 1077936413 (.node 31 (.node 4194355 (.node 1431579357 (.node 67108883 (.node 11 .leaf .leaf) (.node 0 .leaf .leaf)) (.node 1 (.node 51 .leaf .leaf) .leaf)) (.node 1079 (.node 31 (.node 247 .leaf .leaf) .leaf) (.node 65871 (.node 7 .leaf .leaf) .leaf))) (.node 16806963 (.node 2101491 (.node 21 (.node 252201579132747827 .leaf .leaf) .leaf) (.node 32787 (.node 1 .leaf .leaf) .leaf)) (.node 3 (.node 223 (.node 65607 .leaf .leaf) .leaf) (.node 847 (.node 0 .leaf .leaf) .leaf)))) (.node 590432176463723689391 (.node 33584179 (.node 71 (.node 32987 (.node 7 .leaf .leaf) .leaf) (.node 31 (.node 1 .leaf .leaf) .leaf)) (.node 1 (.node 524303 (.node 7 .leaf .leaf) .leaf) (.node 335 (.node 0 .leaf .leaf) .leaf))) (.node 102894251646650658546105295247390479821680358314191760245391327 (.node 17180919727 (.node 16806963 (.node 29 .leaf .leaf) .leaf) (.node 4294969167 (.node 13 .leaf .leaf) .leaf)) (.node 66483 (.node 79267452677197797635334867095 (.node 134224379 .leaf .leaf) .leaf) (.node 31 (.node 0 .leaf .leaf) .leaf)))))) (.node 0 (.node 9567 (.node 2417851784471308419498749 (.node 3 (.node 9671406628974747828879487 (.node 527 (.node 19 .leaf .leaf) (.node 0 .leaf .leaf)) (.node 7 (.node 71 .leaf .leaf) .leaf)) (.node 7 (.node 23 (.node 3 .leaf .leaf) .leaf) (.node 335 (.node 5 .leaf .leaf) .leaf))) (.node 7965121005514487 (.node 3 (.node 21 (.node 3849 .leaf .leaf) .leaf) (.node 3 (.node 1 .leaf .leaf) .leaf)) (.node 1 (.node 123 (.node 268567795 .leaf .leaf) .leaf) (.node 271 (.node 0 .leaf .leaf) .leaf)))) (.node 21 (.node 158473254841537508450717212669 (.node 276924791133 (.node 16778087 (.node 34611255 .leaf .leaf) .leaf) (.node 5 (.node 51 .leaf .leaf) .leaf)) (.node 3934399 (.node 3 (.node 15 .leaf .leaf) .leaf) (.node 271 (.node 0 .leaf .leaf) .leaf))) (.node 36893504641204842419 (.node 21 (.node 566728059186443668424063 (.node 1 .leaf .leaf) .leaf) (.node 335 (.node 1035 .leaf .leaf) .leaf)) (.node 2168455229 (.node 61475 (.node 4119 .leaf .leaf) .leaf) (.node 10052677739677 (.node 0 .leaf .leaf) .leaf))))) (.node 131103 (.node 140737488355839 (.node 3885 (.node 16806963 (.node 33587519 (.node 123 .leaf .leaf) (.node 0 .leaf .leaf)) (.node 1 (.node 15 .leaf .leaf) .leaf)) (.node 126671 (.node 18278316228226623 (.node 9007201404321899 .leaf .leaf) .leaf) (.node 33555279 (.node 199 .leaf .leaf) .leaf))) (.node 2251869540847615 (.node 7 (.node 104450985136798700546334618295036869566166904877575317599191099 (.node 8389643 .leaf .leaf) .leaf) (.node 37 (.node 1 .leaf .leaf) .leaf)) (.node 154744884540660370766824719 (.node 7 (.node 11 .leaf .leaf) .leaf) (.node 5 (.node 0 .leaf .leaf) .leaf)))) (.node 83 (.node 16806963 (.node 72057868916883959 (.node 1 (.node 523 .leaf .leaf) .leaf) (.node 19 (.node 455 .leaf .leaf) .leaf)) (.node 5 (.node 17298327269316452047 (.node 15 .leaf .leaf) .leaf) (.node 335 (.node 0 .leaf .leaf) .leaf))) (.node 19 (.node 5580653668482417551536042050400643922919421 (.node 32807 (.node 1 .leaf .leaf) .leaf) (.node 2099023 (.node 1 .leaf .leaf) .leaf)) (.node 21 (.node 3 (.node 7 .leaf .leaf) .leaf) (.node 19 (.node 0 .leaf .leaf) .leaf)))))))
noncomputable def R2.msk (f : FuncId) : Nat := optRec 0 (fun x => x) (T.get 0 R2.mskT f)
end Go.Vex
namespace Go.Vex
open Go.Proofs
set_option maxRecDepth 100000
theorem fo : Tryz.prog.follows .mixedOrders = true := by kernel_rfl
theorem orc0 : OrcOK Tryz.prog (fun _ => none) := fun f g h => by cases h
def fmAV (f : Img.Fm) : AV := .agg [.bool f.cal, .int .i64 f.regs, .bool f.n, .int .i64 f.least, .int .i64 f.most]
def noFm : AV := .agg [.bool false, .int .i64 0, .bool false, .int .i64 0, .int .i64 0]
def formAV (k : Nat) : AV := match Img.formN k with | some f => .tup [fmAV f, .bool true] | none => .tup [noFm, .bool false]
theorem form_all : allK 256 (fun k => iteB (flatB 9 (formAV k)) (ob (callStep Tryz.prog R2.msk (fun _ => none) (ev Tryz.prog (fun _ => false) R2.msk (fun _ => none) 1000) 33 [.int .u8 (.ofNat k)] ⟨0, .leaf⟩) (givesV (formAV k))) none) = some () := by kernel_rfl
theorem form_spec (k : Nat) (hk : k < 256) (H : Hp) : Spec Tryz.prog 33 [.int .u8 (k : Int)] H (Pure (formAV k) H) := by
  obtain ⟨h1, h⟩ := iteB_some (allK_inv form_all k hk)
  obtain ⟨kr, h2, h3⟩ := ob_some h
  obtain ⟨H1, rfl⟩ := givesV_inv h3
  exact spec_run fo orc0 (by kernel_rfl) (n := 9) rfl h1 h2 H
end Go.Vex
namespace Go.Vex
open Go.Proofs
set_option maxRecDepth 100000
def cellsOp (o : Img.Op) : List AV := [.int .u8 (o.k : Int), .int .u8 (o.c : Int), .int .u8 (o.a : Int), .int .u8 (o.b : Int), .int .u8 (o.r : Int), .int .i64 o.n]
def opAV (o : Img.Op) : AV := .agg (cellsOp o)
def cellsFm (f : Img.Fm) : List AV := [.bool f.cal, .int .i64 (f.regs : Int), .bool f.n, .int .i64 f.least, .int .i64 f.most]
def Wf (o : Img.Op) : Prop := o.k < 256 ∧ o.c < 256 ∧ o.a < 256 ∧ o.b < 256 ∧ o.r < 256
theorem en_33 : enterOK Tryz.prog 33 = true := by kernel_rfl
theorem en_32 : enterOK Tryz.prog 32 = true := by kernel_rfl
theorem zc_103 : zeroCells Tryz.prog 103 = some [.bool false, .int .i64 0, .bool false, .int .i64 0, .int .i64 0] := by kernel_rfl
def chkAV (b : Bool) : AV := .int .i64 (if b then 0 else 1)
noncomputable abbrev c32 : Code := codeOf Tryz.f32
variable {ρ ρ0 : Rho} {H H0 : Hp} {w w0 : World} {a : Act}
abbrev CkPost (o : Img.Op) (ρ0 : Rho) (H0 : Hp) (w0 : World) := bodyPostD Tryz.prog Tryz.f32 (Post ρ0 H0 w0 (Pure (chkAV (Img.okB o)) H0))
/-- The last part: the number. -/
theorem chk_num (o : Img.Op) (f : Img.Fm) (hf : Img.formN o.k = some f) (hc : Img.calcB f o.c = true) (hr : (Img.regB f 0 o.a && (Img.regB f 1 o.b && Img.regB f 2 o.r)) = true) {b0 b1 : Nat}
    (hX : Sx Tryz.prog ρ0 H0 w0 84 (fun _ => False) [(b0, cellsOp o), (b1, cellsFm f)] (listF [(1, .ptr b0 0), (3, .ptr b1 0)]) ρ H a w) : (seqR (seqR (seqR (seqR c32)))).wp Tryz.prog (CkPost o ρ0 H0 w0) a w := by
  have hok : Img.okB o = Img.numB f o.n := by unfold Img.okB; rw [hf]; simp only [hc, hr, Bool.true_and]
  obtain ⟨cal, regs, nn, least, most⟩ := f
  unfold Img.numB at hok
  refine wp_seq (wp_seq (wp_region ?_))
  by_cases h1 : o.n < least <;> by_cases h2 : most < o.n <;> by_cases h3 : o.n = 0 <;> cases nn
  all_goals
    refine sx_q _ _ _ rfl rfl rfl (by decide) hX rfl (hop_field' fz_103_2 rfl) fun a hX => ?_
    refine sx_q _ _ _ rfl rfl rfl (by decide) hX rfl (by first | exact hop_load ty_4 rfl (hX.ld 0 rfl rfl) | exact hop_load ty_4 rfl (hX.ld 1 rfl rfl) | exact hop_load ty_4 rfl (hX.ld 2 rfl rfl)) fun a hX => ?_
    refine sx_q _ _ _ rfl rfl rfl (by decide) hX rfl rfl fun a hX => ?_
    first | refine sx_gf _ _ rfl rfl rfl (by decide) hX rfl fun a hX => ?_ | refine sx_gt _ _ _ rfl rfl rfl (by decide) hX rfl (hop_field' fz_98_5 rfl) fun a hX => ?_
    first | refine sx_gf _ _ rfl rfl rfl (by decide) hX rfl fun a hX => ?_ | refine sx_gt _ _ _ rfl rfl rfl (by decide) hX rfl (by first | exact hop_load ty_2 rfl (hX.ld 0 rfl rfl) | exact hop_load ty_2 rfl (hX.ld 1 rfl rfl) | exact hop_load ty_2 rfl (hX.ld 2 rfl rfl)) fun a hX => ?_
    first | refine sx_gf _ _ rfl rfl rfl (by decide) hX rfl fun a hX => ?_ | refine sx_gt _ _ _ rfl rfl rfl (by decide) hX rfl (hop_field' fz_103_3 rfl) fun a hX => ?_
    first | refine sx_gf _ _ rfl rfl rfl (by decide) hX rfl fun a hX => ?_ | refine sx_gt _ _ _ rfl rfl rfl (by decide) hX rfl (by first | exact hop_load ty_2 rfl (hX.ld 0 rfl rfl) | exact hop_load ty_2 rfl (hX.ld 1 rfl rfl) | exact hop_load ty_2 rfl (hX.ld 2 rfl rfl)) fun a hX => ?_
    first | refine sx_gf _ _ rfl rfl rfl (by decide) hX rfl fun a hX => ?_ | refine sx_gt _ _ _ rfl rfl rfl (by decide) hX rfl (by first | exact hop_bin rfl rfl (bin_lss (by first | exact decide_eq_true (by assumption) | exact decide_eq_false (by assumption))) | rfl) fun a hX => ?_
    first | refine sx_gf _ _ rfl rfl rfl (by decide) hX rfl fun a hX => ?_ | refine sx_gt _ _ _ rfl rfl rfl (by decide) hX rfl rfl fun a hX => ?_
    first | refine sx_gf _ _ rfl rfl rfl (by decide) hX rfl fun a hX => ?_ | refine sx_gt _ _ _ rfl rfl rfl (by decide) hX rfl (hop_field' fz_98_5 rfl) fun a hX => ?_
    first | refine sx_gf _ _ rfl rfl rfl (by decide) hX rfl fun a hX => ?_ | refine sx_gt _ _ _ rfl rfl rfl (by decide) hX rfl (by first | exact hop_load ty_2 rfl (hX.ld 0 rfl rfl) | exact hop_load ty_2 rfl (hX.ld 1 rfl rfl) | exact hop_load ty_2 rfl (hX.ld 2 rfl rfl)) fun a hX => ?_
    first | refine sx_gf _ _ rfl rfl rfl (by decide) hX rfl fun a hX => ?_ | refine sx_gt _ _ _ rfl rfl rfl (by decide) hX rfl (hop_field' fz_103_4 rfl) fun a hX => ?_
    first | refine sx_gf _ _ rfl rfl rfl (by decide) hX rfl fun a hX => ?_ | refine sx_gt _ _ _ rfl rfl rfl (by decide) hX rfl (by first | exact hop_load ty_2 rfl (hX.ld 0 rfl rfl) | exact hop_load ty_2 rfl (hX.ld 1 rfl rfl) | exact hop_load ty_2 rfl (hX.ld 2 rfl rfl)) fun a hX => ?_
    first | refine sx_gf _ _ rfl rfl rfl (by decide) hX rfl fun a hX => ?_ | refine sx_gt _ _ _ rfl rfl rfl (by decide) hX rfl (by first | exact hop_bin rfl rfl (bin_gtr (by first | exact decide_eq_true (by assumption) | exact decide_eq_false (by assumption))) | rfl) fun a hX => ?_
    first | refine sx_gf _ _ rfl rfl rfl (by decide) hX rfl fun a hX => ?_ | refine sx_gt _ _ _ rfl rfl rfl (by decide) hX rfl rfl fun a hX => ?_
    refine sx_q _ _ _ rfl rfl rfl (by decide) hX rfl rfl fun a hX => ?_
    refine sx_q _ _ _ rfl rfl rfl (by decide) hX rfl rfl fun a hX => ?_
    first | refine sx_gf _ _ rfl rfl rfl (by decide) hX rfl fun a hX => ?_ | refine sx_gt _ _ _ rfl rfl rfl (by decide) hX rfl (hop_field' fz_103_2 rfl) fun a hX => ?_
    first | refine sx_gf _ _ rfl rfl rfl (by decide) hX rfl fun a hX => ?_ | refine sx_gt _ _ _ rfl rfl rfl (by decide) hX rfl (by first | exact hop_load ty_4 rfl (hX.ld 0 rfl rfl) | exact hop_load ty_4 rfl (hX.ld 1 rfl rfl) | exact hop_load ty_4 rfl (hX.ld 2 rfl rfl)) fun a hX => ?_
    first | refine sx_gf _ _ rfl rfl rfl (by decide) hX rfl fun a hX => ?_ | refine sx_gt _ _ _ rfl rfl rfl (by decide) hX rfl rfl fun a hX => ?_
    first | refine sx_gf _ _ rfl rfl rfl (by decide) hX rfl fun a hX => ?_ | refine sx_gt _ _ _ rfl rfl rfl (by decide) hX rfl rfl fun a hX => ?_
    first | refine sx_gf _ _ rfl rfl rfl (by decide) hX rfl fun a hX => ?_ | refine sx_gt _ _ _ rfl rfl rfl (by decide) hX rfl (hop_field' fz_98_5 rfl) fun a hX => ?_
    first | refine sx_gf _ _ rfl rfl rfl (by decide) hX rfl fun a hX => ?_ | refine sx_gt _ _ _ rfl rfl rfl (by decide) hX rfl (by first | exact hop_load ty_2 rfl (hX.ld 0 rfl rfl) | exact hop_load ty_2 rfl (hX.ld 1 rfl rfl) | exact hop_load ty_2 rfl (hX.ld 2 rfl rfl)) fun a hX => ?_
    first | refine sx_gf _ _ rfl rfl rfl (by decide) hX rfl fun a hX => ?_ | refine sx_gt _ _ _ rfl rfl rfl (by decide) hX rfl (by first | exact hop_bin rfl rfl (bin_neq_t (by assumption)) | exact hop_bin rfl rfl (bin_neq_f (by assumption)) | rfl) fun a hX => ?_
    first | refine sx_gf _ _ rfl rfl rfl (by decide) hX rfl fun a hX => ?_ | refine sx_gt _ _ _ rfl rfl rfl (by decide) hX rfl rfl fun a hX => ?_
    refine sx_q _ _ _ rfl rfl rfl (by decide) hX rfl rfl fun a hX => ?_
    first
      | (refine sx_true hX rfl (wp_seq (wp_region ?_))
         refine sx_q _ _ _ rfl rfl rfl (by decide) hX rfl rfl fun a hX => ?_
         refine sx_ret1 2 _ hX rfl rfl ?_ id
         have hb : Img.okB o = false := by first | (rw [hok]; simp [show ¬ (least ≤ o.n) from by omega]; done) | (rw [hok]; simp [show ¬ (o.n ≤ most) from by omega]; done) | (rw [hok]; simp [h3]; done)
         rw [hb]; exact hX.pure _)
      | (refine sx_false hX rfl (wp_skip (wp_seq (wp_region ?_)))
         refine sx_q _ _ _ rfl rfl rfl (by decide) hX rfl rfl fun a hX => ?_
         refine sx_ret1 2 _ hX rfl rfl ?_ id
         have hb : Img.okB o = true := by first | (rw [hok]; simp [show least ≤ o.n from by omega, show o.n ≤ most from by omega]; done) | (rw [hok]; simp [h3]; done)
         rw [hb]; exact hX.pure _)
      | (exfalso; omega)
end Go.Vex
namespace Go.Vex
open Go.Proofs
set_option maxRecDepth 100000
theorem ix_106 : ixKind Tryz.prog 106 = some (.arr 3 1 false) := by kernel_rfl
theorem zc_106 : zeroCells Tryz.prog 106 = some [.int .u8 0, .int .u8 0, .int .u8 0] := by kernel_rfl
variable {ρ ρ0 : Rho} {H H0 : Hp} {w w0 : World} {a : Act}
noncomputable abbrev l32 : Code := loopB (blkB (seqR (seqL (seqR (seqR (seqR c32))))))
noncomputable abbrev Q32 (o : Img.Op) (ρ0 : Rho) (H0 : Hp) (w0 : World) : Exit → Act → World → Prop := Exit.inBlock 0 (Exit.then ((seqR (seqR (seqR (seqR c32)))).wp Tryz.prog (CkPost o ρ0 H0 w0)) (CkPost o ρ0 H0 w0))
abbrev S32 (o : Img.Op) (b0 b1 : Nat) (i : Int) : SlF := listF [(1, .ptr b0 0), (3, .ptr b1 0), (34, .agg [.int .u8 (o.a : Int), .int .u8 (o.b : Int), .int .u8 (o.r : Int)]), (35, .int .i64 i)]
theorem chk_l3 (o : Img.Op) (f : Img.Fm) (hf : Img.formN o.k = some f) (hc : Img.calcB f o.c = true) (ha : Img.regB f 0 o.a = true) (hb : Img.regB f 1 o.b = true) (hr : Img.regB f 2 o.r = true) {b0 b1 : Nat}
    (hX : Sx Tryz.prog ρ0 H0 w0 84 (fun _ => False) [(b0, cellsOp o), (b1, cellsFm f)] (S32 o b0 b1 3) ρ H a w) : LoopWp Tryz.prog l32 (Q32 o ρ0 H0 w0) a w := by
  refine LoopWp.unroll (wp_seq (wp_region ?_))
  refine sx_q _ _ _ rfl rfl rfl (by decide) hX rfl (by first | exact hop_bin rfl rfl (bin_lss (by first | exact decide_eq_true (by assumption) | exact decide_eq_false (by assumption))) | rfl) fun a hX => ?_
  refine wp_seq (sx_false hX rfl (wp_exit ?_))
  refine then_exit (then_exit (inBlock_hit ?_))
  exact chk_num o f hf hc (by rw [ha, hb, hr]; rfl) (hX.slots [(1, .ptr b0 0), (3, .ptr b1 0)] ⟨rfl, rfl, trivial⟩)
theorem chk_l2 (o : Img.Op) (f : Img.Fm) (hf : Img.formN o.k = some f) (hc : Img.calcB f o.c = true) (ha : Img.regB f 0 o.a = true) (hb : Img.regB f 1 o.b = true) {b0 b1 : Nat}
    (hX : Sx Tryz.prog ρ0 H0 w0 84 (fun _ => False) [(b0, cellsOp o), (b1, cellsFm f)] (S32 o b0 b1 2) ρ H a w) : LoopWp Tryz.prog l32 (Q32 o ρ0 H0 w0) a w := by
  refine LoopWp.unroll (wp_seq (wp_region ?_))
  refine sx_q _ _ _ rfl rfl rfl (by decide) hX rfl (by first | exact hop_bin rfl rfl (bin_lss (by first | exact decide_eq_true (by assumption) | exact decide_eq_false (by assumption))) | rfl) fun a hX => ?_
  refine wp_seq (sx_true hX rfl (wp_skip ?_))
  refine wp_seq (wp_block (wp_seq (wp_region ?_)))
  refine sx_q _ _ _ rfl rfl rfl (by decide) hX rfl rfl fun a hX => ?_
  refine sx_q _ _ _ rfl rfl rfl (by decide) hX rfl (hop_index_arr ix_106 rfl rfl rfl rfl) fun a hX => ?_
  refine sx_q _ _ _ rfl rfl rfl (by decide) hX rfl rfl fun a hX => ?_
  refine sx_q _ _ _ rfl rfl rfl (by decide) hX rfl rfl fun a hX => ?_
  refine wp_seq (wp_region ?_)
  by_cases h1 : (2 : Int) < (f.regs : Int) <;> by_cases h2 : (8 : Int) ≤ (o.r : Int) <;> by_cases h3 : (o.r : Int) = 0
  all_goals
    have h1' : (f.regs : Int) ≤ 2 ↔ ¬ (2 : Int) < (f.regs : Int) := by omega
    have h4 := fun h => h1'.2 h
    have h5 : ¬ (2 : Int) < (f.regs : Int) → (f.regs : Int) ≤ 2 := h4
    clear h1' h4
    first | (have h6 := h5 (by assumption)) | (have h6 : ¬ (f.regs : Int) ≤ 2 := by omega)
    clear h5
    refine sx_q _ _ _ rfl rfl rfl (by decide) hX rfl rfl fun a hX => ?_
    refine sx_q _ _ _ rfl rfl rfl (by decide) hX rfl (hop_field' fz_103_1 rfl) fun a hX => ?_
    refine sx_q _ _ _ rfl rfl rfl (by decide) hX rfl (by first | exact hop_load ty_3 rfl (hX.ld 0 rfl rfl) | exact hop_load ty_3 rfl (hX.ld 1 rfl rfl) | exact hop_load ty_3 rfl (hX.ld 2 rfl rfl)) fun a hX => ?_
    refine sx_q _ _ _ rfl rfl rfl (by decide) hX rfl (by first | exact hop_bin rfl rfl (bin_lss (by first | exact decide_eq_true (by assumption) | exact decide_eq_false (by assumption))) | rfl) fun a hX => ?_
    refine sx_q _ _ _ rfl rfl rfl (by decide) hX rfl rfl fun a hX => ?_
    first | refine sx_gf _ _ rfl rfl rfl (by decide) hX rfl fun a hX => ?_ | refine sx_gt _ _ _ rfl rfl rfl (by decide) hX rfl rfl fun a hX => ?_
    first | refine sx_gf _ _ rfl rfl rfl (by decide) hX rfl fun a hX => ?_ | refine sx_gt _ _ _ rfl rfl rfl (by decide) hX rfl (by first | exact hop_bin rfl rfl (bin_geq (by first | exact decide_eq_true (by assumption) | exact decide_eq_false (by assumption))) | rfl) fun a hX => ?_
    refine sx_q _ _ _ rfl rfl rfl (by decide) hX rfl rfl fun a hX => ?_
    refine sx_q _ _ _ rfl rfl rfl (by decide) hX rfl rfl fun a hX => ?_
    first | refine sx_gf _ _ rfl rfl rfl (by decide) hX rfl fun a hX => ?_ | refine sx_gt _ _ _ rfl rfl rfl (by decide) hX rfl rfl fun a hX => ?_
    first | refine sx_gf _ _ rfl rfl rfl (by decide) hX rfl fun a hX => ?_ | refine sx_gt _ _ _ rfl rfl rfl (by decide) hX rfl (hop_field' fz_103_1 rfl) fun a hX => ?_
    first | refine sx_gf _ _ rfl rfl rfl (by decide) hX rfl fun a hX => ?_ | refine sx_gt _ _ _ rfl rfl rfl (by decide) hX rfl (by first | exact hop_load ty_3 rfl (hX.ld 0 rfl rfl) | exact hop_load ty_3 rfl (hX.ld 1 rfl rfl) | exact hop_load ty_3 rfl (hX.ld 2 rfl rfl)) fun a hX => ?_
    first | refine sx_gf _ _ rfl rfl rfl (by decide) hX rfl fun a hX => ?_ | refine sx_gt _ _ _ rfl rfl rfl (by decide) hX rfl (by first | exact hop_bin rfl rfl (bin_geq (by first | exact decide_eq_true (by assumption) | exact decide_eq_false (by assumption))) | rfl) fun a hX => ?_
    first | refine sx_gf _ _ rfl rfl rfl (by decide) hX rfl fun a hX => ?_ | refine sx_gt _ _ _ rfl rfl rfl (by decide) hX rfl rfl fun a hX => ?_
    first | refine sx_gf _ _ rfl rfl rfl (by decide) hX rfl fun a hX => ?_ | refine sx_gt _ _ _ rfl rfl rfl (by decide) hX rfl rfl fun a hX => ?_
    first | refine sx_gf _ _ rfl rfl rfl (by decide) hX rfl fun a hX => ?_ | refine sx_gt _ _ _ rfl rfl rfl (by decide) hX rfl (by first | exact hop_bin rfl rfl (bin_neq_t (by assumption)) | exact hop_bin rfl rfl (bin_neq_f (by assumption)) | rfl) fun a hX => ?_
    first | refine sx_gf _ _ rfl rfl rfl (by decide) hX rfl fun a hX => ?_ | refine sx_gt _ _ _ rfl rfl rfl (by decide) hX rfl rfl fun a hX => ?_
    refine sx_q _ _ _ rfl rfl rfl (by decide) hX rfl rfl fun a hX => ?_
    first
      | (refine sx_true hX rfl (wp_seq (wp_region ?_))
         refine sx_q _ _ _ rfl rfl rfl (by decide) hX rfl rfl fun a hX => ?_
         refine sx_ret1 2 _ hX rfl rfl ?_ id
         have hb : Img.okB o = false := by
           have : Img.regB f 2 o.r = false := by
             unfold Img.regB
             first | (rw [if_pos (by omega)]; simp; omega) | (rw [if_neg (by omega)]; simp; omega)
           unfold Img.okB; rw [hf]; simp [this]
         rw [hb]; exact hX.pure _)
      | (refine sx_false hX rfl (wp_skip (wp_region ?_))
         refine sx_q _ _ _ rfl rfl rfl (by decide) hX rfl (hop_bin rfl rfl bin_add) fun a hX => ?_
         refine sx_q _ _ _ rfl rfl rfl (by decide) hX rfl rfl fun a hX => ?_
         have hreg : Img.regB f 2 o.r = true := by
           unfold Img.regB
           first | (rw [if_pos (by omega)]; simp; omega) | (rw [if_neg (by omega)]; simp; omega)
         exact chk_l3 o f hf hc ha hb hreg (hX.slots [(1, .ptr b0 0), (3, .ptr b1 0), (34, .agg [.int .u8 (o.a : Int), .int .u8 (o.b : Int), .int .u8 (o.r : Int)]), (35, .int .i64 3)] ⟨rfl, rfl, rfl, rfl, trivial⟩))
      | (exfalso; omega)
theorem chk_l1 (o : Img.Op) (f : Img.Fm) (hf : Img.formN o.k = some f) (hc : Img.calcB f o.c = true) (ha : Img.regB f 0 o.a = true) {b0 b1 : Nat}
    (hX : Sx Tryz.prog ρ0 H0 w0 84 (fun _ => False) [(b0, cellsOp o), (b1, cellsFm f)] (S32 o b0 b1 1) ρ H a w) : LoopWp Tryz.prog l32 (Q32 o ρ0 H0 w0) a w := by
  refine LoopWp.unroll (wp_seq (wp_region ?_))
  refine sx_q _ _ _ rfl rfl rfl (by decide) hX rfl (by first | exact hop_bin rfl rfl (bin_lss (by first | exact decide_eq_true (by assumption) | exact decide_eq_false (by assumption))) | rfl) fun a hX => ?_
  refine wp_seq (sx_true hX rfl (wp_skip ?_))
  refine wp_seq (wp_block (wp_seq (wp_region ?_)))
  refine sx_q _ _ _ rfl rfl rfl (by decide) hX rfl rfl fun a hX => ?_
  refine sx_q _ _ _ rfl rfl rfl (by decide) hX rfl (hop_index_arr ix_106 rfl rfl rfl rfl) fun a hX => ?_
  refine sx_q _ _ _ rfl rfl rfl (by decide) hX rfl rfl fun a hX => ?_
  refine sx_q _ _ _ rfl rfl rfl (by decide) hX rfl rfl fun a hX => ?_
  refine wp_seq (wp_region ?_)
  by_cases h1 : (1 : Int) < (f.regs : Int) <;> by_cases h2 : (8 : Int) ≤ (o.b : Int) <;> by_cases h3 : (o.b : Int) = 0
  all_goals
    have h1' : (f.regs : Int) ≤ 1 ↔ ¬ (1 : Int) < (f.regs : Int) := by omega
    have h4 := fun h => h1'.2 h
    have h5 : ¬ (1 : Int) < (f.regs : Int) → (f.regs : Int) ≤ 1 := h4
    clear h1' h4
    first | (have h6 := h5 (by assumption)) | (have h6 : ¬ (f.regs : Int) ≤ 1 := by omega)
    clear h5
    refine sx_q _ _ _ rfl rfl rfl (by decide) hX rfl rfl fun a hX => ?_
    refine sx_q _ _ _ rfl rfl rfl (by decide) hX rfl (hop_field' fz_103_1 rfl) fun a hX => ?_
    refine sx_q _ _ _ rfl rfl rfl (by decide) hX rfl (by first | exact hop_load ty_3 rfl (hX.ld 0 rfl rfl) | exact hop_load ty_3 rfl (hX.ld 1 rfl rfl) | exact hop_load ty_3 rfl (hX.ld 2 rfl rfl)) fun a hX => ?_
    refine sx_q _ _ _ rfl rfl rfl (by decide) hX rfl (by first | exact hop_bin rfl rfl (bin_lss (by first | exact decide_eq_true (by assumption) | exact decide_eq_false (by assumption))) | rfl) fun a hX => ?_
    refine sx_q _ _ _ rfl rfl rfl (by decide) hX rfl rfl fun a hX => ?_
    first | refine sx_gf _ _ rfl rfl rfl (by decide) hX rfl fun a hX => ?_ | refine sx_gt _ _ _ rfl rfl rfl (by decide) hX rfl rfl fun a hX => ?_
    first | refine sx_gf _ _ rfl rfl rfl (by decide) hX rfl fun a hX => ?_ | refine sx_gt _ _ _ rfl rfl rfl (by decide) hX rfl (by first | exact hop_bin rfl rfl (bin_geq (by first | exact decide_eq_true (by assumption) | exact decide_eq_false (by assumption))) | rfl) fun a hX => ?_
    refine sx_q _ _ _ rfl rfl rfl (by decide) hX rfl rfl fun a hX => ?_
    refine sx_q _ _ _ rfl rfl rfl (by decide) hX rfl rfl fun a hX => ?_
    first | refine sx_gf _ _ rfl rfl rfl (by decide) hX rfl fun a hX => ?_ | refine sx_gt _ _ _ rfl rfl rfl (by decide) hX rfl rfl fun a hX => ?_
    first | refine sx_gf _ _ rfl rfl rfl (by decide) hX rfl fun a hX => ?_ | refine sx_gt _ _ _ rfl rfl rfl (by decide) hX rfl (hop_field' fz_103_1 rfl) fun a hX => ?_
    first | refine sx_gf _ _ rfl rfl rfl (by decide) hX rfl fun a hX => ?_ | refine sx_gt _ _ _ rfl rfl rfl (by decide) hX rfl (by first | exact hop_load ty_3 rfl (hX.ld 0 rfl rfl) | exact hop_load ty_3 rfl (hX.ld 1 rfl rfl) | exact hop_load ty_3 rfl (hX.ld 2 rfl rfl)) fun a hX => ?_
    first | refine sx_gf _ _ rfl rfl rfl (by decide) hX rfl fun a hX => ?_ | refine sx_gt _ _ _ rfl rfl rfl (by decide) hX rfl (by first | exact hop_bin rfl rfl (bin_geq (by first | exact decide_eq_true (by assumption) | exact decide_eq_false (by assumption))) | rfl) fun a hX => ?_
    first | refine sx_gf _ _ rfl rfl rfl (by decide) hX rfl fun a hX => ?_ | refine sx_gt _ _ _ rfl rfl rfl (by decide) hX rfl rfl fun a hX => ?_
    first | refine sx_gf _ _ rfl rfl rfl (by decide) hX rfl fun a hX => ?_ | refine sx_gt _ _ _ rfl rfl rfl (by decide) hX rfl rfl fun a hX => ?_
    first | refine sx_gf _ _ rfl rfl rfl (by decide) hX rfl fun a hX => ?_ | refine sx_gt _ _ _ rfl rfl rfl (by decide) hX rfl (by first | exact hop_bin rfl rfl (bin_neq_t (by assumption)) | exact hop_bin rfl rfl (bin_neq_f (by assumption)) | rfl) fun a hX => ?_
    first | refine sx_gf _ _ rfl rfl rfl (by decide) hX rfl fun a hX => ?_ | refine sx_gt _ _ _ rfl rfl rfl (by decide) hX rfl rfl fun a hX => ?_
    refine sx_q _ _ _ rfl rfl rfl (by decide) hX rfl rfl fun a hX => ?_
    first
      | (refine sx_true hX rfl (wp_seq (wp_region ?_))
         refine sx_q _ _ _ rfl rfl rfl (by decide) hX rfl rfl fun a hX => ?_
         refine sx_ret1 2 _ hX rfl rfl ?_ id
         have hb : Img.okB o = false := by
           have : Img.regB f 1 o.b = false := by
             unfold Img.regB
             first | (rw [if_pos (by omega)]; simp; omega) | (rw [if_neg (by omega)]; simp; omega)
           unfold Img.okB; rw [hf]; simp [this]
         rw [hb]; exact hX.pure _)
      | (refine sx_false hX rfl (wp_skip (wp_region ?_))
         refine sx_q _ _ _ rfl rfl rfl (by decide) hX rfl (hop_bin rfl rfl bin_add) fun a hX => ?_
         refine sx_q _ _ _ rfl rfl rfl (by decide) hX rfl rfl fun a hX => ?_
         have hreg : Img.regB f 1 o.b = true := by
           unfold Img.regB
           first | (rw [if_pos (by omega)]; simp; omega) | (rw [if_neg (by omega)]; simp; omega)
         exact chk_l2 o f hf hc ha hreg (hX.slots [(1, .ptr b0 0), (3, .ptr b1 0), (34, .agg [.int .u8 (o.a : Int), .int .u8 (o.b : Int), .int .u8 (o.r : Int)]), (35, .int .i64 2)] ⟨rfl, rfl, rfl, rfl, trivial⟩))
      | (exfalso; omega)
theorem chk_l0 (o : Img.Op) (f : Img.Fm) (hf : Img.formN o.k = some f) (hc : Img.calcB f o.c = true)  {b0 b1 : Nat}
    (hX : Sx Tryz.prog ρ0 H0 w0 84 (fun _ => False) [(b0, cellsOp o), (b1, cellsFm f)] (S32 o b0 b1 0) ρ H a w) : LoopWp Tryz.prog l32 (Q32 o ρ0 H0 w0) a w := by
  refine LoopWp.unroll (wp_seq (wp_region ?_))
  refine sx_q _ _ _ rfl rfl rfl (by decide) hX rfl (by first | exact hop_bin rfl rfl (bin_lss (by first | exact decide_eq_true (by assumption) | exact decide_eq_false (by assumption))) | rfl) fun a hX => ?_
  refine wp_seq (sx_true hX rfl (wp_skip ?_))
  refine wp_seq (wp_block (wp_seq (wp_region ?_)))
  refine sx_q _ _ _ rfl rfl rfl (by decide) hX rfl rfl fun a hX => ?_
  refine sx_q _ _ _ rfl rfl rfl (by decide) hX rfl (hop_index_arr ix_106 rfl rfl rfl rfl) fun a hX => ?_
  refine sx_q _ _ _ rfl rfl rfl (by decide) hX rfl rfl fun a hX => ?_
  refine sx_q _ _ _ rfl rfl rfl (by decide) hX rfl rfl fun a hX => ?_
  refine wp_seq (wp_region ?_)
  by_cases h1 : (0 : Int) < (f.regs : Int) <;> by_cases h2 : (8 : Int) ≤ (o.a : Int) <;> by_cases h3 : (o.a : Int) = 0
  all_goals
    have h1' : (f.regs : Int) ≤ 0 ↔ ¬ (0 : Int) < (f.regs : Int) := by omega
    have h4 := fun h => h1'.2 h
    have h5 : ¬ (0 : Int) < (f.regs : Int) → (f.regs : Int) ≤ 0 := h4
    clear h1' h4
    first | (have h6 := h5 (by assumption)) | (have h6 : ¬ (f.regs : Int) ≤ 0 := by omega)
    clear h5
    refine sx_q _ _ _ rfl rfl rfl (by decide) hX rfl rfl fun a hX => ?_
    refine sx_q _ _ _ rfl rfl rfl (by decide) hX rfl (hop_field' fz_103_1 rfl) fun a hX => ?_
    refine sx_q _ _ _ rfl rfl rfl (by decide) hX rfl (by first | exact hop_load ty_3 rfl (hX.ld 0 rfl rfl) | exact hop_load ty_3 rfl (hX.ld 1 rfl rfl) | exact hop_load ty_3 rfl (hX.ld 2 rfl rfl)) fun a hX => ?_
    refine sx_q _ _ _ rfl rfl rfl (by decide) hX rfl (by first | exact hop_bin rfl rfl (bin_lss (by first | exact decide_eq_true (by assumption) | exact decide_eq_false (by assumption))) | rfl) fun a hX => ?_
    refine sx_q _ _ _ rfl rfl rfl (by decide) hX rfl rfl fun a hX => ?_
    first | refine sx_gf _ _ rfl rfl rfl (by decide) hX rfl fun a hX => ?_ | refine sx_gt _ _ _ rfl rfl rfl (by decide) hX rfl rfl fun a hX => ?_
    first | refine sx_gf _ _ rfl rfl rfl (by decide) hX rfl fun a hX => ?_ | refine sx_gt _ _ _ rfl rfl rfl (by decide) hX rfl (by first | exact hop_bin rfl rfl (bin_geq (by first | exact decide_eq_true (by assumption) | exact decide_eq_false (by assumption))) | rfl) fun a hX => ?_
    refine sx_q _ _ _ rfl rfl rfl (by decide) hX rfl rfl fun a hX => ?_
    refine sx_q _ _ _ rfl rfl rfl (by decide) hX rfl rfl fun a hX => ?_
    first | refine sx_gf _ _ rfl rfl rfl (by decide) hX rfl fun a hX => ?_ | refine sx_gt _ _ _ rfl rfl rfl (by decide) hX rfl rfl fun a hX => ?_
    first | refine sx_gf _ _ rfl rfl rfl (by decide) hX rfl fun a hX => ?_ | refine sx_gt _ _ _ rfl rfl rfl (by decide) hX rfl (hop_field' fz_103_1 rfl) fun a hX => ?_
    first | refine sx_gf _ _ rfl rfl rfl (by decide) hX rfl fun a hX => ?_ | refine sx_gt _ _ _ rfl rfl rfl (by decide) hX rfl (by first | exact hop_load ty_3 rfl (hX.ld 0 rfl rfl) | exact hop_load ty_3 rfl (hX.ld 1 rfl rfl) | exact hop_load ty_3 rfl (hX.ld 2 rfl rfl)) fun a hX => ?_
    first | refine sx_gf _ _ rfl rfl rfl (by decide) hX rfl fun a hX => ?_ | refine sx_gt _ _ _ rfl rfl rfl (by decide) hX rfl (by first | exact hop_bin rfl rfl (bin_geq (by first | exact decide_eq_true (by assumption) | exact decide_eq_false (by assumption))) | rfl) fun a hX => ?_
    first | refine sx_gf _ _ rfl rfl rfl (by decide) hX rfl fun a hX => ?_ | refine sx_gt _ _ _ rfl rfl rfl (by decide) hX rfl rfl fun a hX => ?_
    first | refine sx_gf _ _ rfl rfl rfl (by decide) hX rfl fun a hX => ?_ | refine sx_gt _ _ _ rfl rfl rfl (by decide) hX rfl rfl fun a hX => ?_
    first | refine sx_gf _ _ rfl rfl rfl (by decide) hX rfl fun a hX => ?_ | refine sx_gt _ _ _ rfl rfl rfl (by decide) hX rfl (by first | exact hop_bin rfl rfl (bin_neq_t (by assumption)) | exact hop_bin rfl rfl (bin_neq_f (by assumption)) | rfl) fun a hX => ?_
    first | refine sx_gf _ _ rfl rfl rfl (by decide) hX rfl fun a hX => ?_ | refine sx_gt _ _ _ rfl rfl rfl (by decide) hX rfl rfl fun a hX => ?_
    refine sx_q _ _ _ rfl rfl rfl (by decide) hX rfl rfl fun a hX => ?_
    first
      | (refine sx_true hX rfl (wp_seq (wp_region ?_))
         refine sx_q _ _ _ rfl rfl rfl (by decide) hX rfl rfl fun a hX => ?_
         refine sx_ret1 2 _ hX rfl rfl ?_ id
         have hb : Img.okB o = false := by
           have : Img.regB f 0 o.a = false := by
             unfold Img.regB
             first | (rw [if_pos (by omega)]; simp; omega) | (rw [if_neg (by omega)]; simp; omega)
           unfold Img.okB; rw [hf]; simp [this]
         rw [hb]; exact hX.pure _)
      | (refine sx_false hX rfl (wp_skip (wp_region ?_))
         refine sx_q _ _ _ rfl rfl rfl (by decide) hX rfl (hop_bin rfl rfl bin_add) fun a hX => ?_
         refine sx_q _ _ _ rfl rfl rfl (by decide) hX rfl rfl fun a hX => ?_
         have hreg : Img.regB f 0 o.a = true := by
           unfold Img.regB
           first | (rw [if_pos (by omega)]; simp; omega) | (rw [if_neg (by omega)]; simp; omega)
         exact chk_l1 o f hf hc  hreg (hX.slots [(1, .ptr b0 0), (3, .ptr b1 0), (34, .agg [.int .u8 (o.a : Int), .int .u8 (o.b : Int), .int .u8 (o.r : Int)]), (35, .int .i64 1)] ⟨rfl, rfl, rfl, rfl, trivial⟩))
      | (exfalso; omega)
theorem chk_regs (o : Img.Op) (f : Img.Fm) (hf : Img.formN o.k = some f) (hc : Img.calcB f o.c = true) {b0 b1 : Nat}
    (hX : Sx Tryz.prog ρ0 H0 w0 84 (fun _ => False) [(b0, cellsOp o), (b1, cellsFm f)] (listF [(1, .ptr b0 0), (3, .ptr b1 0)]) ρ H a w) : (seqR (seqR (seqR c32))).wp Tryz.prog (CkPost o ρ0 H0 w0) a w := by
  refine wp_seq (wp_seq (wp_region ?_))
  refine sx_q _ _ _ rfl rfl rfl (by decide) hX rfl (hop_field' fz_98_2 rfl) fun a hX => ?_
  refine sx_q _ _ _ rfl rfl rfl (by decide) hX rfl (by first | exact hop_load ty_5 rfl (hX.ld 0 rfl rfl) | exact hop_load ty_5 rfl (hX.ld 1 rfl rfl) | exact hop_load ty_5 rfl (hX.ld 2 rfl rfl)) fun a hX => ?_
  refine sx_q _ _ _ rfl rfl rfl (by decide) hX rfl (hop_field' fz_98_3 rfl) fun a hX => ?_
  refine sx_q _ _ _ rfl rfl rfl (by decide) hX rfl (by first | exact hop_load ty_5 rfl (hX.ld 0 rfl rfl) | exact hop_load ty_5 rfl (hX.ld 1 rfl rfl) | exact hop_load ty_5 rfl (hX.ld 2 rfl rfl)) fun a hX => ?_
  refine sx_q _ _ _ rfl rfl rfl (by decide) hX rfl (hop_field' fz_98_4 rfl) fun a hX => ?_
  refine sx_q _ _ _ rfl rfl rfl (by decide) hX rfl (by first | exact hop_load ty_5 rfl (hX.ld 0 rfl rfl) | exact hop_load ty_5 rfl (hX.ld 1 rfl rfl) | exact hop_load ty_5 rfl (hX.ld 2 rfl rfl)) fun a hX => ?_
  refine sx_q _ _ _ rfl rfl rfl (by decide) hX rfl (hop_build_arr zc_106 Tryz.underlying106 sz_5 rfl) fun a hX => ?_
  refine sx_q _ _ _ rfl rfl rfl (by decide) hX rfl rfl fun a hX => ?_
  refine wp_block (LoopWp.wp ?_)
  exact chk_l0 o f hf hc (hX.slots [(1, .ptr b0 0), (3, .ptr b1 0), (34, .agg [.int .u8 (o.a : Int), .int .u8 (o.b : Int), .int .u8 (o.r : Int)]), (35, .int .i64 0)] ⟨rfl, rfl, rfl, rfl, trivial⟩)
/-- isa.Check. -/
theorem chk_spec (o : Img.Op) (hw : Wf o) (H : Hp) : Spec Tryz.prog 32 [opAV o] H (Pure (chkAV (Img.okB o)) H) := by
  refine spec_body0 84 Tryz.func32 rfl Tryz.ntmps32 (by simp) fun ρ w a hX => ?_
  refine wp_seq (wp_region ?_)
  refine sx_new _ _ (fun b => .ptr b 0) _ rfl rfl rfl (by decide) hX (hop_box rfl rfl) fun b ρ H a w hX => ?_   -- box 98 t0
  refine sx_q _ _ _ rfl rfl rfl (by decide) hX rfl rfl fun a hX => ?_
  refine wp_seq (wp_region ?_)
  refine sx_q _ _ _ rfl rfl rfl (by decide) hX rfl (hop_field' fz_98_0 rfl) fun a hX => ?_
  refine sx_q _ _ _ rfl rfl rfl (by decide) hX rfl (by first | exact hop_load ty_95 rfl (hX.ld 0 rfl rfl) | exact hop_load ty_95 rfl (hX.ld 1 rfl rfl) | exact hop_load ty_95 rfl (hX.ld 2 rfl rfl)) fun a hX => ?_
  refine sx_pure _ _ 33 [.int .u8 (o.k : Int)] (formAV o.k) rfl rfl rfl (by decide) hX (hop_callf en_33 rfl) (form_spec o.k hw.1 _) fun ρ H a w hX => ?_
  cases hf : Img.formN o.k with
  | none =>
    have hfa : formAV o.k = .tup [noFm, .bool false] := by unfold formAV; rw [hf]
    rw [hfa] at hX
    refine sx_q _ _ _ rfl rfl rfl (by decide) hX rfl rfl fun a hX => ?_
    refine sx_q _ _ _ rfl rfl rfl (by decide) hX rfl rfl fun a hX => ?_
    refine sx_q _ _ _ rfl rfl rfl (by decide) hX rfl rfl fun a hX => ?_
    refine sx_new _ _ (fun b => .ptr b 0) _ rfl rfl rfl (by decide) hX (hop_alloc zc_103) fun b ρ H a w hX => ?_   -- alloc 103
    refine sx_st _ 1 _ _ _ _ rfl rfl rfl hX rfl (by simp) (hop_storeN sz_103 rfl rfl rfl rfl) fun ρ H w hX => ?_
    refine sx_q _ _ _ rfl rfl rfl (by decide) hX rfl rfl fun a hX => ?_
    refine wp_seq (wp_seq (wp_region ?_))
    refine sx_q _ _ _ rfl rfl rfl (by decide) hX rfl rfl fun a hX => ?_
    refine sx_q _ _ _ rfl rfl rfl (by decide) hX rfl rfl fun a hX => ?_
    refine sx_q _ _ _ rfl rfl rfl (by decide) hX rfl rfl fun a hX => ?_
    first | refine sx_gf _ _ rfl rfl rfl (by decide) hX rfl fun a hX => ?_ | refine sx_gt _ _ _ rfl rfl rfl (by decide) hX rfl (hop_field' fz_103_0 rfl) fun a hX => ?_
    first | refine sx_gf _ _ rfl rfl rfl (by decide) hX rfl fun a hX => ?_ | refine sx_gt _ _ _ rfl rfl rfl (by decide) hX rfl (by first | exact hop_load ty_4 rfl (hX.ld 0 rfl rfl) | exact hop_load ty_4 rfl (hX.ld 1 rfl rfl) | exact hop_load ty_4 rfl (hX.ld 2 rfl rfl)) fun a hX => ?_
    first | refine sx_gf _ _ rfl rfl rfl (by decide) hX rfl fun a hX => ?_ | refine sx_gt _ _ _ rfl rfl rfl (by decide) hX rfl (hop_field' fz_98_1 rfl) fun a hX => ?_
    first | refine sx_gf _ _ rfl rfl rfl (by decide) hX rfl fun a hX => ?_ | refine sx_gt _ _ _ rfl rfl rfl (by decide) hX rfl (by first | exact hop_load ty_96 rfl (hX.ld 0 rfl rfl) | exact hop_load ty_96 rfl (hX.ld 1 rfl rfl) | exact hop_load ty_96 rfl (hX.ld 2 rfl rfl)) fun a hX => ?_
    first | refine sx_gf _ _ rfl rfl rfl (by decide) hX rfl fun a hX => ?_ | refine sx_gt _ _ _ rfl rfl rfl (by decide) hX rfl (by first | exact hop_bin rfl rfl (bin_neq_t (by assumption)) | exact hop_bin rfl rfl (bin_neq_f (by assumption)) | rfl) fun a hX => ?_
    first | refine sx_gf _ _ rfl rfl rfl (by decide) hX rfl fun a hX => ?_ | refine sx_gt _ _ _ rfl rfl rfl (by decide) hX rfl (hop_bin rfl rfl (bin_neq_bool Tryz.underlying4)) fun a hX => ?_
    refine sx_q _ _ _ rfl rfl rfl (by decide) hX rfl rfl fun a hX => ?_
    refine sx_q _ _ _ rfl rfl rfl (by decide) hX rfl rfl fun a hX => ?_
    first | refine sx_gf _ _ rfl rfl rfl (by decide) hX rfl fun a hX => ?_ | refine sx_gt _ _ _ rfl rfl rfl (by decide) hX rfl (hop_field' fz_98_1 rfl) fun a hX => ?_
    first | refine sx_gf _ _ rfl rfl rfl (by decide) hX rfl fun a hX => ?_ | refine sx_gt _ _ _ rfl rfl rfl (by decide) hX rfl (by first | exact hop_load ty_96 rfl (hX.ld 0 rfl rfl) | exact hop_load ty_96 rfl (hX.ld 1 rfl rfl) | exact hop_load ty_96 rfl (hX.ld 2 rfl rfl)) fun a hX => ?_
    first | refine sx_gf _ _ rfl rfl rfl (by decide) hX rfl fun a hX => ?_ | refine sx_gt _ _ _ rfl rfl rfl (by decide) hX rfl (by first | exact hop_bin rfl rfl (bin_gtr (by first | exact decide_eq_true (by assumption) | exact decide_eq_false (by assumption))) | rfl) fun a hX => ?_
    refine sx_q _ _ _ rfl rfl rfl (by decide) hX rfl rfl fun a hX => ?_
    refine sx_true hX rfl (wp_seq (wp_region ?_))
    refine sx_q _ _ _ rfl rfl rfl (by decide) hX rfl rfl fun a hX => ?_
    refine sx_ret1 2 _ hX rfl rfl ?_ id
    have hb : Img.okB o = false := by unfold Img.okB; rw [hf]
    rw [hb]; exact hX.pure _
  | some f =>
    have hfa : formAV o.k = .tup [fmAV f, .bool true] := by unfold formAV; rw [hf]
    rw [hfa] at hX
    refine sx_q _ _ _ rfl rfl rfl (by decide) hX rfl rfl fun a hX => ?_
    refine sx_q _ _ _ rfl rfl rfl (by decide) hX rfl rfl fun a hX => ?_
    refine sx_q _ _ _ rfl rfl rfl (by decide) hX rfl rfl fun a hX => ?_
    refine sx_new _ _ (fun b => .ptr b 0) _ rfl rfl rfl (by decide) hX (hop_alloc zc_103) fun b ρ H a w hX => ?_   -- alloc 103
    refine sx_st _ 1 _ _ _ _ rfl rfl rfl hX rfl (by simp) (hop_storeN sz_103 rfl rfl rfl rfl) fun ρ H w hX => ?_
    refine sx_q _ _ _ rfl rfl rfl (by decide) hX rfl rfl fun a hX => ?_
    refine wp_seq (wp_seq (wp_region ?_))
    obtain ⟨cal, regs, nn, least, most⟩ := f
    by_cases h1 : (o.c : Int) = 0 <;> by_cases h2 : (14 : Int) < (o.c : Int) <;> cases cal
    all_goals
      refine sx_q _ _ _ rfl rfl rfl (by decide) hX rfl rfl fun a hX => ?_
      refine sx_q _ _ _ rfl rfl rfl (by decide) hX rfl rfl fun a hX => ?_
      refine sx_q _ _ _ rfl rfl rfl (by decide) hX rfl rfl fun a hX => ?_
      first | refine sx_gf _ _ rfl rfl rfl (by decide) hX rfl fun a hX => ?_ | refine sx_gt _ _ _ rfl rfl rfl (by decide) hX rfl (hop_field' fz_103_0 rfl) fun a hX => ?_
      first | refine sx_gf _ _ rfl rfl rfl (by decide) hX rfl fun a hX => ?_ | refine sx_gt _ _ _ rfl rfl rfl (by decide) hX rfl (by first | exact hop_load ty_4 rfl (hX.ld 0 rfl rfl) | exact hop_load ty_4 rfl (hX.ld 1 rfl rfl) | exact hop_load ty_4 rfl (hX.ld 2 rfl rfl)) fun a hX => ?_
      first | refine sx_gf _ _ rfl rfl rfl (by decide) hX rfl fun a hX => ?_ | refine sx_gt _ _ _ rfl rfl rfl (by decide) hX rfl (hop_field' fz_98_1 rfl) fun a hX => ?_
      first | refine sx_gf _ _ rfl rfl rfl (by decide) hX rfl fun a hX => ?_ | refine sx_gt _ _ _ rfl rfl rfl (by decide) hX rfl (by first | exact hop_load ty_96 rfl (hX.ld 0 rfl rfl) | exact hop_load ty_96 rfl (hX.ld 1 rfl rfl) | exact hop_load ty_96 rfl (hX.ld 2 rfl rfl)) fun a hX => ?_
      first | refine sx_gf _ _ rfl rfl rfl (by decide) hX rfl fun a hX => ?_ | refine sx_gt _ _ _ rfl rfl rfl (by decide) hX rfl (by first | exact hop_bin rfl rfl (bin_neq_t (by assumption)) | exact hop_bin rfl rfl (bin_neq_f (by assumption)) | rfl) fun a hX => ?_
      first | refine sx_gf _ _ rfl rfl rfl (by decide) hX rfl fun a hX => ?_ | refine sx_gt _ _ _ rfl rfl rfl (by decide) hX rfl (hop_bin rfl rfl (bin_neq_bool Tryz.underlying4)) fun a hX => ?_
      refine sx_q _ _ _ rfl rfl rfl (by decide) hX rfl rfl fun a hX => ?_
      refine sx_q _ _ _ rfl rfl rfl (by decide) hX rfl rfl fun a hX => ?_
      first | refine sx_gf _ _ rfl rfl rfl (by decide) hX rfl fun a hX => ?_ | refine sx_gt _ _ _ rfl rfl rfl (by decide) hX rfl (hop_field' fz_98_1 rfl) fun a hX => ?_
      first | refine sx_gf _ _ rfl rfl rfl (by decide) hX rfl fun a hX => ?_ | refine sx_gt _ _ _ rfl rfl rfl (by decide) hX rfl (by first | exact hop_load ty_96 rfl (hX.ld 0 rfl rfl) | exact hop_load ty_96 rfl (hX.ld 1 rfl rfl) | exact hop_load ty_96 rfl (hX.ld 2 rfl rfl)) fun a hX => ?_
      first | refine sx_gf _ _ rfl rfl rfl (by decide) hX rfl fun a hX => ?_ | refine sx_gt _ _ _ rfl rfl rfl (by decide) hX rfl (by first | exact hop_bin rfl rfl (bin_gtr (by first | exact decide_eq_true (by assumption) | exact decide_eq_false (by assumption))) | rfl) fun a hX => ?_
      refine sx_q _ _ _ rfl rfl rfl (by decide) hX rfl rfl fun a hX => ?_
      first
        | (refine sx_true hX rfl (wp_seq (wp_region ?_))
           refine sx_q _ _ _ rfl rfl rfl (by decide) hX rfl rfl fun a hX => ?_
           refine sx_ret1 2 _ hX rfl rfl ?_ id
           have hb : Img.okB o = false := by
             unfold Img.okB; rw [hf]
             show (Img.calcB _ o.c && _) = false
             unfold Img.calcB
             first | (simp [show o.c = 0 from by omega]; done) | (simp [show o.c ≠ 0 from by omega]; done) | (simp [show ¬ o.c ≤ 14 from by omega]; done)
           rw [hb]; exact hX.pure _)
        | (refine sx_false hX rfl (wp_skip ?_)
           refine chk_regs o _ hf ?_ (hX.slots [(1, .ptr _ 0), (3, .ptr _ 0)] ⟨rfl, rfl, trivial⟩)
           unfold Img.calcB
           first | (simp [show o.c = 0 from by omega]; done) | (simp [show o.c ≠ 0 from by omega, show o.c ≤ 14 from by omega]; done))
        | (exfalso; omega)
end Go.Vex
