/-
  What is read of bytes, in plain words: there and back.
  No condition.
-/
import Derived.Test.YtmpabjogookkpaaGreatBkE
set_option linter.unusedVariables false
namespace Go.Vex
open Go.Proofs
/-! ### What image.Decode reads, in plain words -/
/-- The cells: so many more. -/
def cellsV : Nat → List (Int × Int) → List Nat → Bool → List (Int × Int) × List Nat × Bool
  | 0, l, s, bad => (l, s, bad)
  | k + 1, l, s, bad =>
    let x := numV s bad
    let y := numV x.2.1 x.2.2
    cellsV k (l ++ [(x.1, y.1)]) y.2.1 y.2.2
open Classical in
noncomputable def decIsa (s : List Nat) : Option (List Img.Op) := if h : ∃ l, Img.Good l ∧ Img.encL l = s then some (Classical.choose h) else none
/-- The rows: so many more. -/
noncomputable def rowsV : Nat → List (List Img.Op) → List Nat → Bool → List (List Img.Op) × List Nat × Bool
  | 0, l, s, bad => (l, s, bad)
  | k + 1, l, s, bad =>
    let x := cntV s bad 1
    let y := takeV x.2.1 x.2.2 x.1
    match decIsa y.1 with
    | none => (l, y.2.1, true)
    | some r => if y.2.2 then (l, y.2.1, true) else rowsV k (l ++ [r]) y.2.1 y.2.2
noncomputable def parse (b : List Nat) : Option Img.Im :=
  let t := takeV b false 12
  if t.1 ≠ Img.hdr then none else
  let m := numV t.2.1 t.2.2
  let c := cntV m.2.1 m.2.2 16
  let cs := cellsV c.1.toNat [] c.2.1 c.2.2
  let r := cntV cs.2.1 cs.2.2 8
  let rs := rowsV r.1.toNat [] r.2.1 r.2.2
  if rs.2.2 ∨ rs.2.1 ≠ [] then none else
  let im : Img.Im := ⟨rs.1, m.1, cs.1⟩
  if Img.tchk im ≠ 0 then none else some im
theorem decIsa_some {s : List Nat} (hs : ∀ c ∈ s, c < 256) {l : List Img.Op} (hl : Img.Good l) (e : Img.encL l = s) : decIsa s = some l := by
  have h : ∃ l, Img.Good l ∧ Img.encL l = s := ⟨l, hl, e⟩
  unfold decIsa
  rw [dif_pos h]
  obtain ⟨g1, g2⟩ := Classical.choose_spec h
  obtain ⟨l2, e1, e2⟩ := Img.encL_pre l (Classical.choose h) [] hl.2 g1.2 (by intro c hc; exact (List.not_mem_nil hc).elim) (by rw [g2, e, List.append_nil])
  cases l2 with
  | nil => rw [e1, List.append_nil]
  | cons o l2 =>
    have ho := g1.2 o (by rw [e1]; simp)
    rw [Img.encL_cons] at e2
    exact absurd (List.append_eq_nil_iff.1 e2).1 (Img.encO_ne ho.1)
theorem decIsa_none {s : List Nat} (h : ∀ l, Img.Good l → Img.encL l ≠ s) : decIsa s = none := by
  unfold decIsa
  rw [dif_neg]
  rintro ⟨l, h1, h2⟩
  exact h l h1 h2
theorem decIsa_inv {s : List Nat} {l : List Img.Op} (h : decIsa s = some l) : Img.Good l ∧ Img.encL l = s := by
  unfold decIsa at h
  split at h
  · rename_i hx
    injection h with h
    subst h
    exact Classical.choose_spec hx
  · cases h
end Go.Vex
namespace Go.Vex
open Go.Proofs
def I64 (n : Int) : Prop := Img.lo ≤ n ∧ n ≤ Img.hi
theorem takeV_app (t u : List Nat) {n : Int} (h : (t.length : Int) = n) : takeV (t ++ u) false n = (t, u, false) := by
  unfold takeV
  rw [if_neg (by simp; omega)]
  have : n.toNat = t.length := by omega
  rw [this, List.take_left, List.drop_left]
theorem takeV_inv {s : List Nat} {bad : Bool} {n : Int} {t u : List Nat} (h : takeV s bad n = (t, u, false)) : bad = false ∧ (t.length : Int) = n ∧ s = t ++ u := by
  unfold takeV at h
  split at h
  · injection h with _ h; injection h with _ h; cases h
  · rename_i hn
    simp at hn
    injection h with h1 h2
    injection h2 with h2 h3
    refine ⟨hn.1, ?_, ?_⟩
    · rw [← h1, List.length_take]; omega
    · rw [← h1, ← h2, List.take_append_drop]
theorem numV_be (n : Int) (hn : I64 n) (u : List Nat) : numV (Img.beN 8 n ++ u) false = (n, u, false) := by
  unfold numV
  rw [takeV_app (Img.beN 8 n) u (by rw [Img.beN_len]; rfl)]
  rw [Img.fold_be8 hn.1 hn.2]
theorem stepN_I64 (m : Int) (b : Nat) : I64 (Img.stepN m b) := by
  unfold I64 Img.stepN Img.wrapI Img.lo Img.hi; omega
theorem fold_I64 : ∀ (bs : List Nat) (m : Int), I64 m → I64 (bs.foldl Img.stepN m) := by
  intro bs
  induction bs with
  | nil => intro m h; exact h
  | cons b bs ih => intro m h; rw [List.foldl_cons]; exact ih _ (stepN_I64 m b)
theorem I64_0 : I64 0 := by unfold I64 Img.lo Img.hi; omega
theorem numV_I64 (s : List Nat) (bad : Bool) : I64 (numV s bad).1 := fold_I64 _ _ I64_0
theorem numV_inv {s : List Nat} (hs : ∀ c ∈ s, c < 256) {bad : Bool} {n : Int} {u : List Nat} (h : numV s bad = (n, u, false)) : bad = false ∧ I64 n ∧ s = Img.beN 8 n ++ u := by
  have hi := numV_I64 s bad
  rw [h] at hi
  unfold numV at h
  injection h with h1 h2
  injection h2 with h2 h3
  obtain ⟨g1, g2, g3⟩ := takeV_inv (s := s) (bad := bad) (n := 8) (t := (takeV s bad 8).1) (u := u) (by rw [← h2, ← h3])
  refine ⟨g1, hi, ?_⟩
  have hl : (takeV s bad 8).1.length = 8 := by omega
  rw [← h1, Img.be_fold8 _ hl (takeV_lt hs bad 8).1]; exact g3
theorem numV_lt {s : List Nat} (hs : ∀ c ∈ s, c < 256) (bad : Bool) : ∀ c ∈ (numV s bad).2.1, c < 256 := (takeV_lt hs bad 8).2
theorem cntV_lt {s : List Nat} (hs : ∀ c ∈ s, c < 256) (bad : Bool) (each : Nat) : ∀ c ∈ (cntV s bad each).2.1, c < 256 := by
  unfold cntV
  split
  · exact numV_lt hs bad
  · exact numV_lt hs bad
theorem cntV_be (n : Nat) (hn : I64 (n : Int)) (u : List Nat) {each : Nat} (he : 0 < each) (hu : n * each ≤ u.length) : cntV (Img.beN 8 (n : Int) ++ u) false each = ((n : Int), u, false) := by
  unfold cntV
  rw [numV_be _ hn]
  have : n ≤ u.length / each := (Nat.le_div_iff_mul_le he).2 hu
  rw [if_neg (by show ¬ ((n : Int) < 0 ∨ ((u.length / each : Nat) : Int) < (n : Int)); generalize u.length / each = q at this ⊢; omega)]
theorem cntV_inv {s : List Nat} (hs : ∀ c ∈ s, c < 256) {bad : Bool} {n : Int} {u : List Nat} {each : Nat} (h : cntV s bad each = (n, u, false)) : bad = false ∧ I64 n ∧ 0 ≤ n ∧ s = Img.beN 8 n ++ u := by
  unfold cntV at h
  split at h
  · injection h with _ h; injection h with _ h; cases h
  · rename_i hn
    obtain ⟨h1, h2, h3⟩ := numV_inv hs h
    refine ⟨h1, h2, ?_, h3⟩
    rw [h] at hn
    simp at hn
    exact hn.1
end Go.Vex
namespace Go.Vex
open Go.Proofs
theorem cellsV_be : ∀ (l : List (Int × Int)) (acc : List (Int × Int)) (u : List Nat), (∀ p ∈ l, I64 p.1 ∧ I64 p.2) → cellsV l.length acc (Img.encC l ++ u) false = (acc ++ l, u, false) := by
  intro l
  induction l with
  | nil => intro acc u _; show (acc, u, false) = _; rw [List.append_nil]
  | cons p l ih =>
    intro acc u h
    have hp := h p (by simp)
    have e : Img.encC (p :: l) ++ u = Img.beN 8 p.1 ++ (Img.beN 8 p.2 ++ (Img.encC l ++ u)) := by unfold Img.encC; simp
    rw [e]
    show cellsV (l.length + 1) acc _ false = _
    unfold cellsV
    rw [numV_be _ hp.1]
    show cellsV l.length (acc ++ [(p.1, (numV (Img.beN 8 p.2 ++ (Img.encC l ++ u)) false).1)]) _ _ = _
    rw [numV_be _ hp.2]
    show cellsV l.length (acc ++ [(p.1, p.2)]) (Img.encC l ++ u) false = _
    rw [ih _ _ fun q hq => h q (by simp [hq])]
    simp
theorem cellsV_lt : ∀ (k : Nat) (acc : List (Int × Int)) (s : List Nat) (bad : Bool), (∀ c ∈ s, c < 256) → ∀ c ∈ (cellsV k acc s bad).2.1, c < 256 := by
  intro k
  induction k with
  | zero => intro acc s bad h; exact h
  | succ k ih => intro acc s bad h; exact ih _ _ _ (numV_lt (numV_lt h bad) _)
theorem cellsV_inv : ∀ (k : Nat) (acc : List (Int × Int)) (s : List Nat) (bad : Bool) (l : List (Int × Int)) (u : List Nat), (∀ c ∈ s, c < 256) → cellsV k acc s bad = (l, u, false) → bad = false ∧ ∃ l', l = acc ++ l' ∧ l'.length = k ∧ s = Img.encC l' ++ u ∧ ∀ p ∈ l', I64 p.1 ∧ I64 p.2 := by
  intro k
  induction k with
  | zero =>
    intro acc s bad l u _ h
    have h : (acc, s, bad) = (l, u, false) := h
    injection h with h1 h2
    injection h2 with h2 h3
    exact ⟨h3, [], by rw [h1, List.append_nil], rfl, by rw [h2]; rfl, by intro p hp; exact (List.not_mem_nil hp).elim⟩
  | succ k ih =>
    intro acc s bad l u hs h
    have h : cellsV k (acc ++ [((numV s bad).1, (numV (numV s bad).2.1 (numV s bad).2.2).1)]) (numV (numV s bad).2.1 (numV s bad).2.2).2.1 (numV (numV s bad).2.1 (numV s bad).2.2).2.2 = (l, u, false) := h
    obtain ⟨h1, l', e1, e2, e3, e4⟩ := ih _ _ _ _ _ (numV_lt (numV_lt hs bad) _) h
    obtain ⟨g1, g2, g3⟩ := numV_inv (numV_lt hs bad) (n := (numV (numV s bad).2.1 (numV s bad).2.2).1) (u := (numV (numV s bad).2.1 (numV s bad).2.2).2.1) (by rw [← h1])
    obtain ⟨k1, k2, k3⟩ := numV_inv hs (n := (numV s bad).1) (u := (numV s bad).2.1) (by rw [← g1])
    refine ⟨k1, ((numV s bad).1, (numV (numV s bad).2.1 (numV s bad).2.2).1) :: l', ?_, by simp [e2], ?_, ?_⟩
    · rw [e1]; simp
    · have e : ∀ (x y : Int) (l : List (Int × Int)), Img.encC ((x, y) :: l) = Img.beN 8 x ++ Img.beN 8 y ++ Img.encC l := fun x y l => by unfold Img.encC; simp
      rw [e, List.append_assoc, List.append_assoc, ← e3, ← g3]; exact k3
    · intro p hp
      rcases List.mem_cons.1 hp with rfl | hp
      · exact ⟨k2, g2⟩
      · exact e4 p hp
end Go.Vex
namespace Go.Vex
open Go.Proofs
theorem good_len {r : List Img.Op} (h : Img.Good r) : (Img.encL r).length ≤ 3407872 := by
  have h1 := Img.encL_len r
  have h2 := h.1
  omega
theorem good_lt {r : List Img.Op} (h : Img.Good r) : ∀ c ∈ Img.encL r, c < 256 := Img.encL_lt fun o ho => (h.2 o ho).2
theorem encR_cons (r : List Img.Op) (l : List (List Img.Op)) : Img.encR (r :: l) = Img.beN 8 ((Img.encL r).length : Int) ++ Img.encL r ++ Img.encR l := by unfold Img.encR; simp
theorem rowsV_be : ∀ (l : List (List Img.Op)) (acc : List (List Img.Op)) (u : List Nat), (∀ r ∈ l, Img.Good r) → rowsV l.length acc (Img.encR l ++ u) false = (acc ++ l, u, false) := by
  intro l
  induction l with
  | nil => intro acc u _; show (acc, u, false) = _; rw [List.append_nil]
  | cons r l ih =>
    intro acc u h
    have hr := h r (by simp)
    have hlen := good_len hr
    rw [encR_cons, List.append_assoc, List.append_assoc]
    show rowsV (l.length + 1) acc _ false = _
    unfold rowsV
    have e1 : cntV (Img.beN 8 ((Img.encL r).length : Int) ++ (Img.encL r ++ (Img.encR l ++ u))) false 1 = (((Img.encL r).length : Int), Img.encL r ++ (Img.encR l ++ u), false) :=
      cntV_be _ (by unfold I64 Img.lo Img.hi; omega) _ (by decide) (by rw [List.length_append]; omega)
    have e2 : takeV (Img.encL r ++ (Img.encR l ++ u)) false ((Img.encL r).length : Int) = (Img.encL r, Img.encR l ++ u, false) := takeV_app _ _ rfl
    simp only [e1, e2, decIsa_some (good_lt hr) hr rfl]
    rw [if_neg (by simp), ih _ _ fun q hq => h q (by simp [hq])]
    simp
theorem rowsV_inv : ∀ (k : Nat) (acc : List (List Img.Op)) (s : List Nat) (bad : Bool) (l : List (List Img.Op)) (u : List Nat), (∀ c ∈ s, c < 256) → rowsV k acc s bad = (l, u, false) → bad = false ∧ ∃ l', l = acc ++ l' ∧ l'.length = k ∧ s = Img.encR l' ++ u ∧ ∀ r ∈ l', Img.Good r := by
  intro k
  induction k with
  | zero =>
    intro acc s bad l u _ h
    have h : (acc, s, bad) = (l, u, false) := h
    injection h with h1 h2
    injection h2 with h2 h3
    exact ⟨h3, [], by rw [h1, List.append_nil], rfl, by rw [h2]; rfl, by intro p hp; exact (List.not_mem_nil hp).elim⟩
  | succ k ih =>
    intro acc s bad l u hs h
    unfold rowsV at h
    generalize hx : cntV s bad 1 = x at h
    obtain ⟨xn, xs, xb⟩ := x
    simp only at h
    generalize hy : takeV xs xb xn = y at h
    obtain ⟨yt, ys, yb⟩ := y
    simp only at h
    generalize hd : decIsa yt = d at h
    cases d with
    | none => injection h with _ h; injection h with _ h; cases h
    | some r =>
      simp only at h
      cases yb with
      | true => rw [if_pos rfl] at h; injection h with _ h; injection h with _ h; cases h
      | false =>
        rw [if_neg (by simp)] at h
        obtain ⟨g1, g2, g3⟩ := takeV_inv hy
        subst g1
        obtain ⟨k1, k2, k3, k4⟩ := cntV_inv hs hx
        have hxs : ∀ c ∈ ys, c < 256 := fun c hc => by
          have := cntV_lt hs bad 1 c
          rw [hx] at this
          exact this (by rw [g3]; exact List.mem_append_right _ hc)
        obtain ⟨_, l', e1, e2, e3, e4⟩ := ih _ _ _ _ _ hxs h
        obtain ⟨d1, d2⟩ := decIsa_inv hd
        refine ⟨k1, r :: l', by rw [e1]; simp, by simp [e2], ?_, ?_⟩
        · rw [encR_cons, d2, g2, k4, g3, e3]; simp
        · intro q hq
          rcases List.mem_cons.1 hq with rfl | hq
          · exact d1
          · exact e4 q hq
theorem rowsV_lt : ∀ (k : Nat) (acc : List (List Img.Op)) (s : List Nat) (bad : Bool), (∀ c ∈ s, c < 256) → ∀ c ∈ (rowsV k acc s bad).2.1, c < 256 := by
  intro k
  induction k with
  | zero => intro acc s bad h; exact h
  | succ k ih =>
    intro acc s bad h
    have h1 : ∀ c ∈ (takeV (cntV s bad 1).2.1 (cntV s bad 1).2.2 (cntV s bad 1).1).2.1, c < 256 := (takeV_lt (cntV_lt h bad 1) _ _).2
    unfold rowsV
    simp only
    split
    · exact h1
    · split
      · exact h1
      · exact ih _ _ _ h1
/-- An image whose numbers are numbers of the machine, whose rows are right. -/
def GoodI (m : Img.Im) : Prop := Img.tchk m = 0 ∧ Img.WfI m ∧ ∀ p ∈ m.cells, I64 p.1 ∧ I64 p.2
theorem encR_ge : ∀ (l : List (List Img.Op)), l.length * 8 ≤ (Img.encR l).length := by
  intro l
  induction l with
  | nil => simp
  | cons r l ih => rw [encR_cons, List.length_append, List.length_append, Img.beN_len, List.length_cons]; omega
theorem encC_len : ∀ (l : List (Int × Int)), (Img.encC l).length = l.length * 16 := by
  intro l
  induction l with
  | nil => rfl
  | cons p l ih =>
    have e : Img.encC (p :: l) = Img.beN 8 p.1 ++ Img.beN 8 p.2 ++ Img.encC l := by unfold Img.encC; simp
    rw [e, List.length_append, List.length_append, Img.beN_len, Img.beN_len, ih, List.length_cons]; omega
theorem goodI_rows {m : Img.Im} (h : GoodI m) : ∀ r ∈ m.code, Img.Good r := by
  intro r hr
  obtain ⟨h1, h2⟩ := Img.tchk_rows h.1 r hr
  refine ⟨h1, fun o ho => ⟨List.all_eq_true.1 h2 o ho, (h.2.1.1 r hr).1 o ho⟩⟩
theorem goodI_mem {m : Img.Im} (h : GoodI m) : 1 ≤ m.mem ∧ m.mem ≤ 262144 ∧ m.code.length ≤ 4 := by
  obtain ⟨h1, h2, _, _⟩ := Img.tchk_0 h.1
  unfold Img.limB at h1
  simp at h1
  omega
/-- What is read of an image's bytes and more. -/
theorem parse_app {m : Img.Im} (h : GoodI m) (t : List Nat) : parse (Img.encB m ++ t) = if t = [] then some m else none := by
  obtain ⟨m1, m2, m3⟩ := goodI_mem h
  obtain ⟨_, _, hcl⟩ := h.2.1
  have hr := goodI_rows h
  have e5 := cntV_be (each := 8) m.code.length (by unfold I64 Img.lo Img.hi; omega) (Img.encR m.code ++ t) (by decide) (by have := encR_ge m.code; rw [List.length_append]; omega)
  have e4 := cellsV_be m.cells [] (Img.beN 8 (m.code.length : Int) ++ (Img.encR m.code ++ t)) h.2.2
  have e3 := cntV_be (each := 16) m.cells.length (by unfold I64 Img.lo Img.hi; omega) (Img.encC m.cells ++ (Img.beN 8 (m.code.length : Int) ++ (Img.encR m.code ++ t))) (by decide) (by rw [List.length_append, encC_len]; omega)
  have e2 := numV_be m.mem (by unfold I64 Img.lo Img.hi; omega) (Img.beN 8 (m.cells.length : Int) ++ (Img.encC m.cells ++ (Img.beN 8 (m.code.length : Int) ++ (Img.encR m.code ++ t))))
  have e0 : Img.encB m ++ t = Img.hdr ++ (Img.beN 8 m.mem ++ (Img.beN 8 (m.cells.length : Int) ++ (Img.encC m.cells ++ (Img.beN 8 (m.code.length : Int) ++ (Img.encR m.code ++ t))))) := by unfold Img.encB; simp
  have e1 := takeV_app (n := 12) Img.hdr (Img.beN 8 m.mem ++ (Img.beN 8 (m.cells.length : Int) ++ (Img.encC m.cells ++ (Img.beN 8 (m.code.length : Int) ++ (Img.encR m.code ++ t))))) rfl
  rw [← e0] at e1
  have e6 := rowsV_be m.code [] t hr
  unfold parse
  simp only [e1, e2, e3, Int.toNat_natCast, e4, e5, e6, List.nil_append, h.1]
  cases t with
  | nil => simp
  | cons c t => simp
theorem parse_inv {b : List Nat} (hb : ∀ c ∈ b, c < 256) (hl : b.length ≤ 2305843009213693952) {m : Img.Im} (h : parse b = some m) : GoodI m ∧ Img.encB m = b := by
  unfold parse at h
  generalize ht : takeV b false 12 = t at h
  obtain ⟨tt, ts, tb⟩ := t
  simp only at h
  by_cases h0 : tt ≠ Img.hdr
  · rw [if_pos h0] at h; cases h
  rw [if_neg h0] at h
  have h0 : tt = Img.hdr := Classical.not_not.1 h0
  subst h0
  have hts : ∀ c ∈ ts, c < 256 := by have := (takeV_lt hb false 12).2; rw [ht] at this; exact this
  generalize hm : numV ts tb = mm at h
  obtain ⟨mn, ms, mb⟩ := mm
  simp only at h
  have hms : ∀ c ∈ ms, c < 256 := by have := numV_lt hts tb; rw [hm] at this; exact this
  generalize hc : cntV ms mb 16 = cc at h
  obtain ⟨cn, cs, cb⟩ := cc
  simp only at h
  have hcs : ∀ c ∈ cs, c < 256 := by have := cntV_lt hms mb 16; rw [hc] at this; exact this
  generalize hd : cellsV cn.toNat [] cs cb = dd at h
  obtain ⟨dl, ds, db⟩ := dd
  simp only at h
  have hds : ∀ c ∈ ds, c < 256 := by have := cellsV_lt cn.toNat [] cs cb hcs; rw [hd] at this; exact this
  generalize hr : cntV ds db 8 = rr at h
  obtain ⟨rn, rs, rb⟩ := rr
  simp only at h
  have hrs : ∀ c ∈ rs, c < 256 := by have := cntV_lt hds db 8; rw [hr] at this; exact this
  generalize hv : rowsV rn.toNat [] rs rb = vv at h
  obtain ⟨vl, vs, vb⟩ := vv
  simp only at h
  by_cases h1 : vb = true ∨ vs ≠ []
  · rw [if_pos h1] at h; cases h
  rw [if_neg h1] at h
  have hvb : vb = false := by cases vb with | false => rfl | true => exact absurd (.inl rfl) h1
  have hvs : vs = [] := Classical.not_not.1 fun h2 => h1 (.inr h2)
  subst hvb hvs
  by_cases h2 : Img.tchk ⟨vl, mn, dl⟩ ≠ 0
  · rw [if_pos h2] at h; cases h
  rw [if_neg h2] at h
  have h2 : Img.tchk ⟨vl, mn, dl⟩ = 0 := Classical.not_not.1 h2
  injection h with h
  subst h
  obtain ⟨rfl, l1, e1, e2, e3, e4⟩ := rowsV_inv _ _ _ _ _ _ hrs hv
  obtain ⟨rfl, r1, r2, r3⟩ := cntV_inv hds hr
  obtain ⟨rfl, l2, f1, f2, f3, f4⟩ := cellsV_inv _ _ _ _ _ _ hcs hd
  obtain ⟨rfl, c1, c2, c3⟩ := cntV_inv hms hc
  obtain ⟨rfl, n1, n2⟩ := numV_inv hts hm
  obtain ⟨_, _, t3⟩ := takeV_inv ht
  rw [List.nil_append] at e1 f1
  subst e1 f1
  have hb' : Img.encB ⟨vl, mn, dl⟩ = b := by
    have x1 : ((vl.length : Nat) : Int) = rn := by omega
    have x2 : ((dl.length : Nat) : Int) = cn := by omega
    unfold Img.encB
    simp only [x1, x2]
    rw [t3, n2, c3, f3, r3, e3]
    simp
  have hdl : dl.length * 16 ≤ b.length := by
    rw [← hb', ← encC_len]
    unfold Img.encB
    simp only [List.length_append]
    omega
  refine ⟨⟨h2, ⟨fun l hl' => ⟨fun o ho => ((e4 l hl').2 o ho).2, by have := (e4 l hl').1; omega⟩, ?_, by show dl.length ≤ _; omega⟩, f4⟩, hb'⟩
  obtain ⟨g1, _, _, _⟩ := Img.tchk_0 h2
  unfold Img.limB at g1
  simp at g1
  show vl.length ≤ _
  omega
/-- A byte more, a byte less. -/
theorem parse_less {m : Img.Im} (h : GoodI m) (hb : ∀ c ∈ Img.encB m, c < 256) (hl : (Img.encB m).length ≤ 2305843009213693952) {s : List Nat} {c : Nat} (e : Img.encB m = s ++ [c]) : parse s = none := by
  cases hp : parse s with
  | none => rfl
  | some n =>
    obtain ⟨h1, h2⟩ := parse_inv (fun c hc => hb c (by rw [e]; simp [hc])) (by rw [e] at hl; simp at hl; omega) hp
    have h3 := parse_app h1 [c]
    rw [h2, ← e] at h3
    have h4 := parse_app h []
    rw [List.append_nil, h3] at h4
    simp at h4
end Go.Vex
