/-
  A world's memory, as the walk reads it.
  No condition.
-/
import Derived.Test.YtmpabjogookkpaaGreatVxJ
import Derived.ChangeArms
import Derived.DataReads
import Derived.Test.YtmpabjogookkpaaGreatBkI
set_option linter.unusedVariables false
namespace Go.Vex
/-! ### A world's memory, only read -/
/-- A window of a real block: where it lies, what it holds. -/
structure Win where
  r : Nat
  base : Nat
  e : Nat
  avs : List AV
def rhoW (L : List Win) : Rho := fun i => (L[i]?).map fun x => (x.r, x.base, x.e)
def WinOK (W : World) (ρ : Rho) (x : Win) : Prop := 0 < x.avs.length → ∃ c el fz, W.heap[x.r]? = some (.cells c el fz) ∧ c.size = x.e ∧ x.base + x.avs.length ≤ x.e ∧ ∀ j a, x.avs[j]? = some a → ∃ v, c[x.base + j]? = some v ∧ RV ρ a v ∧ Scalar v
theorem roHp : ∀ (L : List Win) (n : Nat), n ≤ L.length → ∃ H : Hp, H.next = n ∧ (∀ i, i < n → ∀ x, L[i]? = some x → ∃ t, H.fn i = .ro x.avs.length .any t ∧ ∀ j a, x.avs[j]? = some a → t.get .any j = some a) ∧ ∀ i, n ≤ i → H.fn i = .dead := by
  intro L n
  induction n with
  | zero => intro _; exact ⟨⟨0, .leaf⟩, rfl, fun i hi => by omega, fun i _ => Hp.fn_of_obj (o := AO.dead) (show T.get AO.dead T.leaf i = some AO.dead from T.get_leaf AO.dead i)⟩
  | succ n ih =>
    intro hn
    obtain ⟨H, h1, h2, h3⟩ := ih (by omega)
    obtain ⟨x, hx⟩ : ∃ x, L[n]? = some x := ⟨_, List.getElem?_eq_getElem (by omega)⟩
    obtain ⟨t, ht1, ht2⟩ := ofList_tot x.avs
    obtain ⟨t', hst, hcell⟩ := ob_some (x := storeT .any x.avs .leaf 0) ht1
    obtain ⟨H', ha⟩ := Hp.alloc_tot H (.ro x.avs.length .any t')
    obtain ⟨a1, a2⟩ := Hp.alloc_fn ha
    refine ⟨H', by omega, fun i hi y hy => ?_, fun i hi => ?_⟩
    · by_cases e : i = n
      · subst e
        rw [hx] at hy; injection hy with hy; subst hy
        refine ⟨t', by rw [a2, if_pos h1.symm], fun j a hj => ?_⟩
        have hg := storeT_get x.avs .leaf t' 0 hst j
        have := (List.getElem?_eq_some_iff.1 hj).1
        rw [if_pos (by omega)] at hg
        rw [hg]; simpa using hj
      · rw [a2, if_neg (by omega)]; exact h2 i (by omega) y hy
    · rw [a2, if_neg (by omega)]; exact h3 i (by omega)
theorem ro_rep (W : World) (L : List Win) (hL : ∀ x ∈ L, WinOK W (rhoW L) x) : ∃ H : Hp, H.next = L.length ∧ Rep (rhoW L) H W ∧ (∀ i x, L[i]? = some x → Rds (H.fn i) x.avs) ∧ ∀ b, ¬ Lv (H.fn b) := by
  obtain ⟨H, h1, h2, h3⟩ := roHp L L.length (Nat.le_refl _)
  have hlv : ∀ b, ¬ Lv (H.fn b) := fun b hb => by
    rcases Nat.lt_or_ge b L.length with h | h
    · obtain ⟨t, e, _⟩ := h2 b h _ (List.getElem?_eq_getElem h)
      rw [e] at hb; exact hb
    · rw [h3 b h] at hb; exact hb
  refine ⟨H, h1, ⟨fun b hb => absurd hb (hlv b), fun b b' r x r' x' hb => absurd hb (hlv b), fun b hb => ?_, fun b n d t hb => ?_⟩, fun i x hx => ?_, hlv⟩
  · unfold rhoW; rw [List.getElem?_eq_none (by omega)]; rfl
  · rcases Nat.lt_or_ge b L.length with h | h
    · have hx := List.getElem?_eq_getElem h
      obtain ⟨t', e, g⟩ := h2 b h _ hx
      rw [hb] at e
      injection e with e1 e2 e3
      subst e1 e2 e3
      refine ⟨L[b].r, L[b].base, L[b].e, by unfold rhoW; rw [hx]; rfl, fun hn => ?_⟩
      obtain ⟨c, el, fz, q1, q2, q3, q4⟩ := hL _ (List.getElem_mem h) hn
      refine ⟨c, el, fz, q1, q2, q3, fun i hi => ?_, fun b' r' x hb' => absurd hb' (hlv b')⟩
      have hi2 := List.getElem?_eq_getElem hi
      obtain ⟨v, z1, z2, z3⟩ := q4 i _ hi2
      exact ⟨_, v, g i _ hi2, z1, z2, z3⟩
    · rw [h3 b h] at hb; cases hb
  · have hl := (List.getElem?_eq_some_iff.1 hx).1
    obtain ⟨t, e, g⟩ := h2 i hl x hx
    exact ⟨.any, t, .inr e, g⟩
/-- A contract over memory that is only read: all of it stays. -/
theorem calls_ro {P : Program} {W : World} {L : List Win} (hL : ∀ x ∈ L, WinOK W (rhoW L) x) {f : FuncId} {args : List AV} {us : List Value} {b : Bool} (ha : All2 (RV (rhoW L)) args us)
    (hs : ∀ H : Hp, H.next = L.length → (∀ i x, L[i]? = some x → Rds (H.fn i) x.avs) → Spec P f args H (Pure (.bool b) H)) : Calls P f us.toArray W fun e w' => e = .returned (.bool b) ∧ (∀ may, W.keptBut w' may) ∧ ∀ i, i < W.heap.size → w'.heap[i]? = W.heap[i]? := by
  obtain ⟨H, h1, h2, h3, h4⟩ := ro_rep W L hL
  refine Calls.mono (hs H h1 h3 (rhoW L) W us ha h2) fun e w' hp => ?_
  obtain ⟨ρ', H', u, v, rfl, hv, hr, hx, rfl, _⟩ := hp
  have hs : ∀ i, i < W.heap.size → w'.heap[i]? = W.heap[i]? := fun i hi => (hx.frame i hi fun b r' x hb => absurd hb (h4 b)).1
  refine ⟨by cases hv; rfl, fun may => ⟨hx.os, hx.out, fun i hi => ?_⟩, hs⟩
  rw [hs i hi]
  split <;> simp_all
/-- For each place a thing: a row of them. -/
theorem row_of {α : Type} {P : Nat → α → Prop} : ∀ (n : Nat), (∀ i, i < n → ∃ x, P i x) → ∃ l : List α, l.length = n ∧ ∀ i x, l[i]? = some x → P i x := by
  intro n
  induction n with
  | zero => intro _; exact ⟨[], rfl, fun i x h => by simp at h⟩
  | succ n ih =>
    intro h
    obtain ⟨l, h1, h2⟩ := ih fun i hi => h i (by omega)
    obtain ⟨x, hx⟩ := h n (by omega)
    refine ⟨l ++ [x], by simp [h1], fun i y hy => ?_⟩
    by_cases hi : i < n
    · rw [List.getElem?_append_left (by omega)] at hy; exact h2 i y hy
    · rw [List.getElem?_append_right (by omega)] at hy
      have e0 : i - l.length = 0 := by have := (List.getElem?_eq_some_iff.1 hy).1; simp at this; omega
      rw [e0] at hy
      simp at hy; subst hy
      have : i = n := by omega
      rw [this]; exact hx
/-- A place in rows of one length, behind one another. -/
theorem rows_get {α β : Type} (f : α → List β) (s : Nat) (hf : ∀ x, (f x).length = s) : ∀ (l : List α) (j : Nat) (b : β), ((l.map f).flatten)[j]? = some b → ∃ i x q, l[i]? = some x ∧ (f x)[q]? = some b ∧ j = i * s + q := by
  intro l
  induction l with
  | nil => intro j b h; simp at h
  | cons x l ih =>
    intro j b h
    have e : (List.map f (x :: l)).flatten = f x ++ (List.map f l).flatten := rfl
    rw [e] at h
    by_cases hj : j < s
    · rw [List.getElem?_append_left (by rw [hf]; exact hj)] at h
      exact ⟨0, x, j, rfl, h, by omega⟩
    · rw [List.getElem?_append_right (by rw [hf]; omega), hf] at h
      obtain ⟨i, y, q, h1, h2, h3⟩ := ih _ b h
      exact ⟨i + 1, y, q, h1, h2, by rw [Nat.add_mul]; omega⟩
theorem rows_len {α β : Type} (f : α → List β) (s : Nat) (hf : ∀ x, (f x).length = s) : ∀ (l : List α), ((l.map f).flatten).length = l.length * s := by
  intro l
  induction l with
  | nil => simp
  | cons x l ih =>
    have e : (List.map f (x :: l)).flatten = f x ++ (List.map f l).flatten := rfl
    rw [e, List.length_append, hf, ih, List.length_cons, Nat.add_mul]; omega
/-- A slice that reads: nil, empty wherever, or cells in a block. -/
theorem slice_opened {Hh : Type} {enc : TypeId × Value → Hh} {P : Program} {W : World} {e t : TypeId} {s fuel : Nat} {u : Value} {x : DataW Hh × List MemPlace} (ht : P.underlying t = some (.slice e)) (hs : P.cellsOf e = s) (hs0 : 0 < s) (h : DataW.trod enc P W 0 (fun _ => true) true fuel t [u] = some x) :
    u = .slice none 0 0 ∨ (∃ a, u = .slice (some a) 0 0) ∨ ∃ r off len cap n, u = .slice (some ⟨r, off, none⟩) len cap ∧ len ≤ cap ∧ len ≤ 9223372036854775807 ∧
      (0 < len → ∃ c el fz, W.heap[r]? = some (.cells c el fz) ∧ ∀ i, i < len → ∃ cs y, DataW.trod enc P W 0 (fun _ => true) true n e cs = some y ∧ cs.length = s ∧ ∀ j v, cs[j]? = some v → c[off + i * s + j]? = some v) := by
  rcases DataW.trod_slice ht h with ⟨h1, _⟩ | ⟨a, len, cap, elems, rest, n, _, h1, _, _, hlc, hcm, hel, hget, hrest, _⟩
  · simp at h1; exact .inl h1
  · simp at h1
    subst h1
    rw [hs] at hget hrest
    obtain ⟨hrl, hrget⟩ := hrest rfl
    have one : ∀ i, i < cap → ∃ cs y, W.cells? 0 (a.add (i * s)) s = some cs ∧ DataW.trod enc P W 0 (fun _ => true) true n e cs = some y := by
      intro i hi
      by_cases hil : i < len
      · have h2 := hget i hil
        obtain ⟨y, hy⟩ : ∃ y, elems[i]? = some y := ⟨_, List.getElem?_eq_getElem (by omega)⟩
        rw [hy] at h2
        obtain ⟨cs, h3, h4⟩ := Option.bind_eq_some_iff.1 h2
        exact ⟨cs, y, h3, h4⟩
      · have h2 := hrget (i - len) (by omega)
        obtain ⟨y, hy⟩ : ∃ y, rest[i - len]? = some y := ⟨_, List.getElem?_eq_getElem (by omega)⟩
        rw [hy] at h2
        obtain ⟨cs, h3, h4⟩ := Option.bind_eq_some_iff.1 h2
        have : len + (i - len) = i := by omega
        rw [this] at h3
        exact ⟨cs, y, h3, h4⟩
    rcases Nat.eq_zero_or_pos cap with h0 | h0
    · subst h0
      have : len = 0 := by omega
      subst this
      exact .inr (.inl ⟨a, rfl⟩)
    · obtain ⟨r, off, spot⟩ := a
      obtain ⟨cs0, y0, hc0, _⟩ := one 0 h0
      obtain ⟨_, hl0, hg0⟩ := World.cells?_some hc0
      have e0 : ((Addr.mk r off spot).add (0 * s)).add 0 = ⟨r, off, spot⟩ := by rw [Nat.zero_mul]; rfl
      have hz := hg0 0 hs0
      rw [e0] at hz
      have hcs0 : cs0[0]? ≠ none := by rw [List.getElem?_eq_getElem (by omega)]; simp
      have hsp : spot = none ∧ ∃ c el fz, W.heap[r]? = some (.cells c el fz) := by
        unfold World.cell? at hz
        simp only at hz
        split at hz
        · rename_i c el fz hh
          split at hz
          · exact absurd hz.symm hcs0
          · rename_i hns
            refine ⟨?_, c, el, fz, hh⟩
            cases spot with
            | none => rfl
            | some k => simp at hns
        · exact absurd hz.symm hcs0
      obtain ⟨rfl, c, el, fz, hh⟩ := hsp
      refine .inr (.inr ⟨r, off, len, cap, n, rfl, hlc, by unfold maxLen at hcm; omega, fun _ => ⟨c, el, fz, hh, fun i hi => ?_⟩⟩)
      obtain ⟨cs, y, hc, hy⟩ := one i (by omega)
      obtain ⟨_, hl, hg⟩ := World.cells?_some hc
      refine ⟨cs, y, hy, hl, fun j v hj => ?_⟩
      have hjl : j < s := by have := (List.getElem?_eq_some_iff.1 hj).1; omega
      have := hg j hjl
      rw [hj, add_mk, add_mk] at this
      unfold World.cell? at this
      simpa [hh] using this
end Go.Vex
namespace Go.Vex
open Go.Proofs
set_option maxRecDepth 100000
section
variable {Hh : Type} {enc : TypeId × Value → Hh} {W : World}
theorem ce_95 : Tryz.prog.cellsOf 95 = 1 := by kernel_rfl
theorem ce_96 : Tryz.prog.cellsOf 96 = 1 := by kernel_rfl
theorem ce_5 : Tryz.prog.cellsOf 5 = 1 := by kernel_rfl
theorem ce_2 : Tryz.prog.cellsOf 2 = 1 := by kernel_rfl
theorem ce_3 : Tryz.prog.cellsOf 3 = 1 := by kernel_rfl
theorem ce_22 : Tryz.prog.cellsOf 22 = 1 := by kernel_rfl
theorem ce_23 : Tryz.prog.cellsOf 23 = 1 := by kernel_rfl
theorem ce_45 : Tryz.prog.cellsOf 45 = 1 := by kernel_rfl
theorem ce_98 : Tryz.prog.cellsOf 98 = 6 := by kernel_rfl
theorem ce_52 : Tryz.prog.cellsOf 52 = 2 := by kernel_rfl
theorem ce_25 : Tryz.prog.cellsOf 25 = 3 := by kernel_rfl
theorem fld_opened {n t off : Nat} {cs : List Value} {r : Option (DataW Hh × List MemPlace)} (h : DataW.trod enc Tryz.prog W 0 (fun _ => true) true n t ((cs.drop off).take (Tryz.prog.cellsOf t)) = r) (hc : Tryz.prog.cellsOf t = 1) (hr : r.isSome = true) (ho : off < cs.length) :
    ∃ v y, cs[off]? = some v ∧ DataW.trod enc Tryz.prog W 0 (fun _ => true) true n t [v] = some y := by
  obtain ⟨v, hv⟩ : ∃ v, cs[off]? = some v := ⟨_, List.getElem?_eq_getElem ho⟩
  obtain ⟨y, hy⟩ := Option.isSome_iff_exists.1 hr
  refine ⟨v, y, hv, ?_⟩
  have e : (cs.drop off).take 1 = [v] := by
    rw [List.drop_eq_getElem?_toList_append, hv]; rfl
  rw [hc, e, hy] at h
  exact h
theorem wf_u8 {z : Int} (h : (Lit.int .u8 z).wf = true) : 0 ≤ z ∧ z < 256 := by
  unfold Lit.wf at h
  rw [Bool.and_eq_true, decide_eq_true_eq, decide_eq_true_eq] at h
  have e1 : IntKind.min .u8 = 0 := by decide
  have e2 : IntKind.max .u8 = 255 := by decide
  omega
theorem wf_i64 {z : Int} (h : (Lit.int .i64 z).wf = true) : I64 z := by
  unfold Lit.wf at h
  rw [Bool.and_eq_true, decide_eq_true_eq, decide_eq_true_eq] at h
  have e1 : IntKind.min .i64 = -9223372036854775808 := by decide
  have e2 : IntKind.max .i64 = 9223372036854775807 := by decide
  unfold I64 Img.lo Img.hi
  omega
def At (ρcs : List Value) (avs : List AV) : Prop := ∀ (j : Nat) (a : AV), avs[j]? = some a → ∃ v, ρcs[j]? = some v ∧ (∀ ρ, RV ρ a v) ∧ Scalar v
theorem op_opened {n : Nat} {cs : List Value} {y : DataW Hh × List MemPlace} (h : DataW.trod enc Tryz.prog W 0 (fun _ => true) true n 98 cs = some y) : ∃ o : Img.Op, Img.Wb o ∧ At cs (cellsOp o) := by
  obtain ⟨xs, n', _, _, hl, hxs, hf⟩ := DataW.trod_struct Tryz.underlying98 h
  rw [ce_98] at hl
  have hxs : xs.length = 6 := hxs
  have is : ∀ i : Nat, i < 6 → (xs[i]?).isSome = true := fun i hi => by
    have h : i < xs.length := by omega
    rw [List.getElem?_eq_getElem h]; rfl
  obtain ⟨v0, y0, e0, t0⟩ := fld_opened (cs := cs) (off := 0) (hf 0 _ rfl) ce_95 (is 0 (by omega)) (by omega)
  obtain ⟨v1, y1, e1, t1⟩ := fld_opened (off := 1) (hf 1 _ rfl) ce_96 (is 1 (by omega)) (by omega)
  obtain ⟨v2, y2, e2, t2⟩ := fld_opened (off := 2) (hf 2 _ rfl) ce_5 (is 2 (by omega)) (by omega)
  obtain ⟨v3, y3, e3, t3⟩ := fld_opened (off := 3) (hf 3 _ rfl) ce_5 (is 3 (by omega)) (by omega)
  obtain ⟨v4, y4, e4, t4⟩ := fld_opened (off := 4) (hf 4 _ rfl) ce_5 (is 4 (by omega)) (by omega)
  obtain ⟨v5, y5, e5, t5⟩ := fld_opened (off := 5) (hf 5 _ rfl) ce_2 (is 5 (by omega)) (by omega)
  obtain ⟨z0, q0, _, w0⟩ := DataW.trod_int Tryz.underlying95 t0
  obtain ⟨z1, q1, _, w1⟩ := DataW.trod_int Tryz.underlying96 t1
  obtain ⟨z2, q2, _, w2⟩ := DataW.trod_int Tryz.underlying5 t2
  obtain ⟨z3, q3, _, w3⟩ := DataW.trod_int Tryz.underlying5 t3
  obtain ⟨z4, q4, _, w4⟩ := DataW.trod_int Tryz.underlying5 t4
  obtain ⟨z5, q5, _, w5⟩ := DataW.trod_int Tryz.underlying2 t5
  injection q0 with q0; injection q1 with q1; injection q2 with q2; injection q3 with q3; injection q4 with q4; injection q5 with q5
  subst q0 q1 q2 q3 q4 q5
  have w0 := wf_u8 w0; have w1 := wf_u8 w1; have w2 := wf_u8 w2; have w3 := wf_u8 w3; have w4 := wf_u8 w4
  have sc : ∀ k z, Scalar (.int k z) := fun k z => ⟨by simp, by simp⟩
  have c : ∀ z : Int, 0 ≤ z → ((z.toNat : Nat) : Int) = z := fun z hz => by omega
  refine ⟨⟨z0.toNat, z1.toNat, z2.toNat, z3.toNat, z4.toNat, z5⟩, ⟨by show z0.toNat < 256; omega, by show z1.toNat < 256; omega, by show z2.toNat < 256; omega, by show z3.toNat < 256; omega, by show z4.toNat < 256; omega⟩, fun j a hj => ?_⟩
  have e : cellsOp ⟨z0.toNat, z1.toNat, z2.toNat, z3.toNat, z4.toNat, z5⟩ = [.int .u8 z0, .int .u8 z1, .int .u8 z2, .int .u8 z3, .int .u8 z4, .int .i64 z5] := by
    unfold cellsOp; simp only [c z0 w0.1, c z1 w1.1, c z2 w2.1, c z3 w3.1, c z4 w4.1]
  rw [e] at hj
  rcases j with _ | _ | _ | _ | _ | _ | j <;> simp at hj <;> subst hj <;> first | exact ⟨_, e0, fun _ => .int _ _, sc _ _⟩ | exact ⟨_, e1, fun _ => .int _ _, sc _ _⟩ | exact ⟨_, e2, fun _ => .int _ _, sc _ _⟩ | exact ⟨_, e3, fun _ => .int _ _, sc _ _⟩ | exact ⟨_, e4, fun _ => .int _ _, sc _ _⟩ | exact ⟨_, e5, fun _ => .int _ _, sc _ _⟩
theorem cell_opened {n : Nat} {cs : List Value} {y : DataW Hh × List MemPlace} (h : DataW.trod enc Tryz.prog W 0 (fun _ => true) true n 52 cs = some y) : ∃ p : Int × Int, (I64 p.1 ∧ I64 p.2) ∧ At cs [.int .i64 p.1, .int .i64 p.2] := by
  obtain ⟨xs, n', _, _, hl, hxs, hf⟩ := DataW.trod_struct Tryz.underlying52 h
  rw [ce_52] at hl
  have hxs : xs.length = 2 := hxs
  have is : ∀ i : Nat, i < 2 → (xs[i]?).isSome = true := fun i hi => by
    have h : i < xs.length := by omega
    rw [List.getElem?_eq_getElem h]; rfl
  obtain ⟨v0, y0, e0, t0⟩ := fld_opened (cs := cs) (off := 0) (hf 0 _ rfl) ce_3 (is 0 (by omega)) (by omega)
  obtain ⟨v1, y1, e1, t1⟩ := fld_opened (off := 1) (hf 1 _ rfl) ce_2 (is 1 (by omega)) (by omega)
  obtain ⟨z0, q0, _, w0⟩ := DataW.trod_int Tryz.underlying3 t0
  obtain ⟨z1, q1, _, w1⟩ := DataW.trod_int Tryz.underlying2 t1
  injection q0 with q0; injection q1 with q1
  subst q0 q1
  have sc : ∀ k z, Scalar (.int k z) := fun k z => ⟨by simp, by simp⟩
  refine ⟨(z0, z1), ⟨wf_i64 w0, wf_i64 w1⟩, fun j a hj => ?_⟩
  rcases j with _ | _ | j <;> simp at hj <;> subst hj <;> first | exact ⟨_, e0, fun _ => .int _ _, sc _ _⟩ | exact ⟨_, e1, fun _ => .int _ _, sc _ _⟩
/-- What stands for a slice of rows of numbers, at block idx. -/
structure RowAt (W : World) {α : Type} (f : α → List AV) (good : α → Prop) (idx : Nat) (u : Value) (l : List α) (V : AV) (x : Win) : Prop where
  good : ∀ o ∈ l, good o
  len : l.length ≤ 9223372036854775807
  sc : Scalar u
  avs : x.avs = (l.map f).flatten
  ok : ∀ ρ, WinOK W ρ x
  val : (Nl V ∧ l = [] ∧ ∀ ρ, RV ρ V u) ∨ ∃ cap, V = .slice idx 0 l.length (.fix cap) ∧ ∀ ρ : Rho, ρ idx = some (x.r, x.base, x.e) → RV ρ V u
theorem row_opened {α : Type} {f : α → List AV} {good : α → Prop} {t el s fuel : Nat} (hf : ∀ a, (f a).length = s) (hs0 : 0 < s) (ht : Tryz.prog.underlying t = some (.slice el)) (hs : Tryz.prog.cellsOf el = s)
    (hel : ∀ {n : Nat} {cs : List Value} {y : DataW Hh × List MemPlace}, DataW.trod enc Tryz.prog W 0 (fun _ => true) true n el cs = some y → ∃ o : α, good o ∧ At cs (f o)) (idx : Nat) {u : Value} {x : DataW Hh × List MemPlace}
    (h : DataW.trod enc Tryz.prog W 0 (fun _ => true) true fuel t [u] = some x) : ∃ l V x, RowAt W f good idx u l V x := by
  have sc : ∀ a n m, Scalar (.slice a n m) := fun a n m => ⟨by simp, by simp⟩
  have none_ : ∀ V, Nl V → (∀ ρ, RV ρ V u) → (∃ a n m, u = .slice a n m) → ∃ l V x, RowAt W f good idx u l V x := fun V hV hr ⟨a, n, m, e⟩ => by
    subst e
    exact ⟨[], V, ⟨0, 0, 0, []⟩, ⟨fun o ho => (List.not_mem_nil ho).elim, by simp, sc _ _ _, rfl, fun ρ h => by simp at h, .inl ⟨hV, rfl, hr⟩⟩⟩
  rcases slice_opened ht hs hs0 h with rfl | ⟨a, rfl⟩ | ⟨r, off, len, cap, n, rfl, hlc, hlm, hh⟩
  · exact none_ .nils (.inl rfl) (fun ρ => .nils) ⟨_, _, _, rfl⟩
  · exact none_ .zsl (.inr rfl) (fun ρ => .zsl) ⟨_, _, _, rfl⟩
  · rcases Nat.eq_zero_or_pos len with h0 | h0
    · subst h0
      refine ⟨[], .slice idx 0 0 (.fix cap), ⟨r, off, 0, []⟩, ⟨fun o ho => (List.not_mem_nil ho).elim, by simp, sc _ _ _, rfl, fun ρ h => by simp at h, .inr ⟨cap, rfl, fun ρ hρ => ?_⟩⟩⟩
      exact .sfix hρ hlc
    · obtain ⟨c, el', fz, hW, hg⟩ := hh h0
      obtain ⟨l, hll, hl⟩ := row_of (P := fun i (o : α) => good o ∧ ∀ (j : Nat) (a : AV), (f o)[j]? = some a → ∃ v, c[off + i * s + j]? = some v ∧ (∀ ρ, RV ρ a v) ∧ Scalar v) len fun i hi => by
        obtain ⟨cs, y, h1, h2, h3⟩ := hg i hi
        obtain ⟨o, g1, g2⟩ := hel h1
        refine ⟨o, g1, fun j a hj => ?_⟩
        obtain ⟨v, q1, q2, q3⟩ := g2 j a hj
        exact ⟨v, h3 j v q1, q2, q3⟩
      have hsz : off + len * s ≤ c.size := by
        obtain ⟨cs, y, h1, h2, h3⟩ := hg (len - 1) (by omega)
        obtain ⟨v, hv⟩ : ∃ v, cs[s - 1]? = some v := ⟨_, List.getElem?_eq_getElem (by omega)⟩
        have := (Array.getElem?_eq_some_iff.1 (h3 _ v hv)).1
        have e : len * s = (len - 1) * s + s := by
          have : len = (len - 1) + 1 := by omega
          conv => lhs; rw [this]
          rw [Nat.add_mul]; omega
        omega
      have hfl := rows_len f s hf l
      refine ⟨l, .slice idx 0 l.length (.fix cap), ⟨r, off, c.size, (l.map f).flatten⟩, ⟨fun o ho => ?_, by omega, sc _ _ _, rfl, fun ρ _ => ⟨c, el', fz, hW, rfl, by rw [hfl, hll]; exact hsz, fun j a hj => ?_⟩, .inr ⟨cap, rfl, fun ρ hρ => ?_⟩⟩⟩
      · obtain ⟨i, hi⟩ := List.mem_iff_getElem?.1 ho
        exact (hl i o hi).1
      · obtain ⟨i, o, q, g1, g2, rfl⟩ := rows_get f s hf l j a hj
        obtain ⟨v, q1, q2, q3⟩ := (hl i o g1).2 q a g2
        exact ⟨v, by rw [← Nat.add_assoc]; exact q1, q2 ρ, q3⟩
      · rw [hll]
        exact .sfix (off := 0) hρ hlc
end
end Go.Vex
namespace Go.Vex
open Go.Proofs
set_option maxRecDepth 100000
section
variable {Hh : Type} {enc : TypeId × Value → Hh} {W : World}
theorem cellsC_at (l : List (Int × Int)) : RowCells (cellsC l) 0 l := by
  intro i p hp
  rw [Nat.zero_add]
  induction l generalizing i with
  | nil => simp at hp
  | cons q l ih =>
    have e : cellsC (q :: l) = .int .i64 q.1 :: .int .i64 q.2 :: cellsC l := rfl
    cases i with
    | zero => simp at hp; subst hp; rw [e]; simp
    | succ i =>
      obtain ⟨h1, h2⟩ := ih i (by simpa using hp)
      rw [e]
      have : (i + 1) * 2 = i * 2 + 1 + 1 := by omega
      rw [this]
      exact ⟨by simp only [List.length_cons]; omega, h2⟩
abbrev fC (p : Int × Int) : List AV := [.int .i64 p.1, .int .i64 p.2]
theorem RowAt.ops {idx : Nat} {u : Value} {l : List Img.Op} {V : AV} {x : Win} (h : RowAt W cellsOp Img.Wb idx u l V x) {H : Hp} (hn : idx < H.next) (hr : Rds (H.fn idx) x.avs) : SlOps H V l := by
  rcases h.val with ⟨h1, h2, _⟩ | ⟨cap, rfl, _⟩
  · exact .inl ⟨h1, h2⟩
  · refine .inr ⟨idx, 0, .fix cap, x.avs, rfl, hn, hr, fun j o ho => ?_⟩
    rw [h.avs, Nat.zero_add]; exact opsCells_at l j o ho
theorem RowAt.cells {idx : Nat} {u : Value} {l : List (Int × Int)} {V : AV} {x : Win} {g : Int × Int → Prop} (h : RowAt W fC g idx u l V x) {H : Hp} (hn : idx < H.next) (hr : Rds (H.fn idx) x.avs) : SlCells H V l := by
  rcases h.val with ⟨h1, h2, _⟩ | ⟨cap, rfl, _⟩
  · exact .inl ⟨h1, h2⟩
  · refine .inr ⟨idx, 0, .fix cap, x.avs, rfl, hn, hr, ?_⟩
    rw [h.avs]; exact cellsC_at l
abbrev Zr := List Img.Op × AV × Win
/-- The rows of a program's code. -/
structure CodeAt (W : World) (uc : Value) (Z : List Zr) (Vc : AV) (x : Win) : Prop where
  len : Z.length ≤ 9223372036854775807
  sc : Scalar uc
  avs : x.avs = Z.map (·.2.1)
  rows : ∀ i z, Z[i]? = some z → ∃ u, RowAt W cellsOp Img.Wb (2 + i) u z.1 z.2.1 z.2.2
  ok : ∀ ρ : Rho, (∀ i z, Z[i]? = some z → ρ (2 + i) = some (z.2.2.r, z.2.2.base, z.2.2.e)) → WinOK W ρ x
  val : (Nl Vc ∧ Z = [] ∧ ∀ ρ, RV ρ Vc uc) ∨ ∃ cap, Vc = .slice 0 0 Z.length (.fix cap) ∧ ∀ ρ : Rho, ρ 0 = some (x.r, x.base, x.e) → RV ρ Vc uc
theorem code_opened {fuel : Nat} {u : Value} {x : DataW Hh × List MemPlace} (h : DataW.trod enc Tryz.prog W 0 (fun _ => true) true fuel 22 [u] = some x) : ∃ Z Vc x, CodeAt W u Z Vc x := by
  have sc : ∀ a n m, Scalar (.slice a n m) := fun a n m => ⟨by simp, by simp⟩
  have none_ : ∀ V, Nl V → (∀ ρ, RV ρ V u) → (∃ a n m, u = .slice a n m) → ∃ Z Vc x, CodeAt W u Z Vc x := fun V hV hr ⟨a, n, m, e⟩ => by
    subst e
    exact ⟨[], V, ⟨0, 0, 0, []⟩, ⟨by simp, sc _ _ _, rfl, fun i z hz => by simp at hz, fun ρ _ h => by simp at h, .inl ⟨hV, rfl, hr⟩⟩⟩
  rcases slice_opened Tryz.underlying22 ce_45 (by decide) h with rfl | ⟨a, rfl⟩ | ⟨r, off, len, cap, n, rfl, hlc, hlm, hh⟩
  · exact none_ .nils (.inl rfl) (fun ρ => .nils) ⟨_, _, _, rfl⟩
  · exact none_ .zsl (.inr rfl) (fun ρ => .zsl) ⟨_, _, _, rfl⟩
  · rcases Nat.eq_zero_or_pos len with h0 | h0
    · subst h0
      exact ⟨[], .slice 0 0 0 (.fix cap), ⟨r, off, 0, []⟩, ⟨by simp, sc _ _ _, rfl, fun i z hz => by simp at hz, fun ρ _ h => by simp at h, .inr ⟨cap, rfl, fun ρ hρ => .sfix hρ hlc⟩⟩⟩
    · obtain ⟨c, el', fz, hW, hg⟩ := hh h0
      obtain ⟨Z, hZl, hZ⟩ := row_of (P := fun i (z : Zr) => ∃ u, c[off + i]? = some u ∧ RowAt W cellsOp Img.Wb (2 + i) u z.1 z.2.1 z.2.2) len fun i hi => by
        obtain ⟨cs, y, h1, h2, h3⟩ := hg i hi
        match cs, h2 with
        | [v], _ =>
          obtain ⟨l, V, x, hR⟩ := row_opened (f := cellsOp) (good := Img.Wb) (fun a => rfl) (by decide) Tryz.underlying45 ce_98 op_opened (2 + i) h1
          have := h3 0 v rfl
          rw [Nat.mul_one, Nat.add_zero] at this
          exact ⟨(l, V, x), v, this, hR⟩
      have hsz : off + len ≤ c.size := by
        obtain ⟨z, hz⟩ : ∃ z, Z[len - 1]? = some z := ⟨_, List.getElem?_eq_getElem (by omega)⟩
        obtain ⟨u, h1, _⟩ := hZ _ z hz
        have := (Array.getElem?_eq_some_iff.1 h1).1
        omega
      refine ⟨Z, .slice 0 0 Z.length (.fix cap), ⟨r, off, c.size, Z.map (·.2.1)⟩, ⟨by omega, sc _ _ _, rfl, fun i z hz => let ⟨u, _, h2⟩ := hZ i z hz; ⟨u, h2⟩, fun ρ hρ _ => ⟨c, el', fz, hW, rfl, by simp; omega, fun j a hj => ?_⟩, .inr ⟨cap, rfl, fun ρ hρ => ?_⟩⟩⟩
      · rw [List.getElem?_map] at hj
        obtain ⟨z, hz, rfl⟩ := Option.map_eq_some_iff.1 hj
        obtain ⟨u, h1, h2⟩ := hZ j z hz
        refine ⟨u, h1, ?_, h2.sc⟩
        rcases h2.val with ⟨_, _, g⟩ | ⟨cap', _, g⟩
        · exact g ρ
        · exact g ρ (hρ j z hz)
      · rw [hZl]; exact .sfix (off := 0) hρ hlc
/-- An image, as it is handed in. -/
theorem image_opened {base : Nat} {v0 : Value} {d0 : DataW Hh} {p0 : List MemPlace} (hval : Value.okWide Tryz.prog W .any base 25 v0) (h : DataW.Trod enc Tryz.prog W 0 (fun _ => true) true 25 v0 d0 p0) :
    ∃ (m : Img.Im) (L : List Win) (Vc Ve : AV), WfL m ∧ (∀ l ∈ m.code, ∀ o ∈ l, Img.Wb o) ∧ (∀ p ∈ m.cells, I64 p.1 ∧ I64 p.2) ∧ (∀ x ∈ L, WinOK W (rhoW L) x) ∧ RV (rhoW L) (.agg (cellsM Vc m.mem Ve)) v0 ∧
      ∀ H : Hp, H.next = L.length → (∀ i x, L[i]? = some x → Rds (H.fn i) x.avs) → SlRows H Vc m.code ∧ SlCells H Ve m.cells := by
  unfold Value.okWide at hval
  rw [Tryz.underlying25] at hval
  obtain ⟨cs, rfl, hcs, _⟩ := hval
  obtain ⟨fuel, h⟩ := h
  have h : DataW.trod enc Tryz.prog W 0 (fun _ => true) true fuel 25 cs.toList = some (d0, p0) := h
  obtain ⟨xs, n', _, _, hl, hxs, hf⟩ := DataW.trod_struct Tryz.underlying25 h
  rw [ce_25] at hl
  have hxs : xs.length = 3 := hxs
  have is : ∀ i : Nat, i < 3 → (xs[i]?).isSome = true := fun i hi => by
    have h : i < xs.length := by omega
    rw [List.getElem?_eq_getElem h]; rfl
  obtain ⟨v0, y0, e0, t0⟩ := fld_opened (cs := cs.toList) (off := 0) (hf 0 _ rfl) ce_22 (is 0 (by omega)) (by omega)
  obtain ⟨v1, y1, e1, t1⟩ := fld_opened (cs := cs.toList) (off := 1) (hf 1 _ rfl) ce_3 (is 1 (by omega)) (by omega)
  obtain ⟨v2, y2, e2, t2⟩ := fld_opened (cs := cs.toList) (off := 2) (hf 2 _ rfl) ce_23 (is 2 (by omega)) (by omega)
  obtain ⟨z1, q1, _, w1⟩ := DataW.trod_int Tryz.underlying3 t1
  injection q1 with q1; subst q1
  obtain ⟨Z, Vc, xc, hC⟩ := code_opened t0
  obtain ⟨l, Ve, xe, hE⟩ := row_opened (f := fC) (good := fun p => I64 p.1 ∧ I64 p.2) (fun a => rfl) (by decide) Tryz.underlying23 ce_52 cell_opened 1 t2
  have hcs3 : cs.toList = [v0, .int .i64 z1, v2] := by
    generalize cs.toList = k at hl e0 e1 e2
    match k, hl with
    | [a, b, c], _ => simp at e0 e1 e2; rw [e0, e1, e2]
  have hcsA : cs = #[v0, .int .i64 z1, v2] := by apply Array.ext'; exact hcs3
  subst hcsA
  have hρ0 : rhoW (xc :: xe :: Z.map (·.2.2)) 0 = some (xc.r, xc.base, xc.e) := rfl
  have hρ1 : rhoW (xc :: xe :: Z.map (·.2.2)) 1 = some (xe.r, xe.base, xe.e) := rfl
  have hLi : ∀ (i : Nat) (z : Zr), Z[i]? = some z → (xc :: xe :: Z.map (·.2.2))[2 + i]? = some z.2.2 := fun i z hz => by
    have : 2 + i = (i + 1) + 1 := by omega
    rw [this, List.getElem?_cons_succ, List.getElem?_cons_succ, List.getElem?_map, hz]; rfl
  have hρi : ∀ (i : Nat) (z : Zr), Z[i]? = some z → rhoW (xc :: xe :: Z.map (·.2.2)) (2 + i) = some (z.2.2.r, z.2.2.base, z.2.2.e) := fun i z hz => by
    unfold rhoW; rw [hLi i z hz]; rfl
  have hin : ∀ z ∈ Z, ∃ i u, Z[i]? = some z ∧ RowAt W cellsOp Img.Wb (2 + i) u z.1 z.2.1 z.2.2 := fun z hz => by
    obtain ⟨i, hi⟩ := List.mem_iff_getElem?.1 hz
    obtain ⟨u, hu⟩ := hC.rows i z hi
    exact ⟨i, u, hi, hu⟩
  refine ⟨⟨Z.map (·.1), z1, l⟩, xc :: xe :: Z.map (·.2.2), Vc, Ve, ⟨fun r hr => ?_, by simpa using hC.len, hE.len⟩, fun r hr o ho => ?_, hE.good, fun x hx => ?_, ?_, fun H hn hR => ⟨?_, ?_⟩⟩
  · obtain ⟨z, hz, rfl⟩ := List.mem_map.1 hr
    obtain ⟨i, u, _, hu⟩ := hin z hz
    exact hu.len
  · obtain ⟨z, hz, rfl⟩ := List.mem_map.1 hr
    obtain ⟨i, u, _, hu⟩ := hin z hz
    exact hu.good o ho
  · rcases List.mem_cons.1 hx with rfl | hx
    · exact hC.ok _ hρi
    · rcases List.mem_cons.1 hx with rfl | hx
      · exact hE.ok _
      · obtain ⟨z, hz, rfl⟩ := List.mem_map.1 hx
        obtain ⟨i, u, _, hu⟩ := hin z hz
        exact hu.ok _
  · have hc : RV (rhoW (xc :: xe :: Z.map (·.2.2))) Vc v0 := by
      rcases hC.val with ⟨_, _, g⟩ | ⟨cap, _, g⟩
      · exact g _
      · exact g _ hρ0
    have he : RV (rhoW (xc :: xe :: Z.map (·.2.2))) Ve v2 := by
      rcases hE.val with ⟨_, _, g⟩ | ⟨cap, _, g⟩
      · exact g _
      · exact g _ hρ1
    exact .agg (vs := [v0, .int .i64 z1, v2]) (.cons hc (.cons (.int _ _) (.cons he .nil))) fun v hv => by
      simp only [List.mem_cons, List.not_mem_nil, or_false] at hv
      rcases hv with rfl | rfl | rfl
      · exact hC.sc
      · exact ⟨by simp, by simp⟩
      · exact hE.sc
  · rcases hC.val with ⟨h1, h2, _⟩ | ⟨cap, rfl, _⟩
    · refine .inl ⟨h1, ?_⟩
      show Z.map (·.1) = []
      rw [h2]; rfl
    · refine .inr ⟨0, 0, .fix cap, xc.avs, by rw [List.length_map], by rw [hn]; simp, hR 0 xc rfl, fun i r hr => ?_⟩
      rw [List.getElem?_map] at hr
      obtain ⟨z, hz, rfl⟩ := Option.map_eq_some_iff.1 hr
      obtain ⟨u, hu⟩ := hC.rows i z hz
      refine ⟨z.2.1, by rw [hC.avs, List.getElem?_map, Nat.zero_add, Nat.mul_one, hz]; rfl, hu.ops ?_ (hR _ _ (hLi i z hz))⟩
      have := (List.getElem?_eq_some_iff.1 (hLi i z hz)).1
      omega
  · exact hE.cells (by rw [hn]; simp) (hR 1 xe rfl)
end
theorem nats_lt (s : ByteArray) : ∀ c ∈ natsOf s.data.toList, c < 256 := by
  intro c hc
  unfold natsOf at hc
  obtain ⟨b, _, rfl⟩ := List.mem_map.1 hc
  exact b.toNat_lt
end Go.Vex
