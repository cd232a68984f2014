/-
  Operations of the evaluator are sound, first part.
  No condition.
-/
import Derived.Test.YtmpabjogookkpaaGreatVxB2
import Derived.IntWalk
import Derived.Laws.StructEq
set_option linter.unusedVariables false
namespace Go.Vex
variable {P : Program} {ρ : Rho} {H : Hp} {w : World} {e : Env} {σ : Operand → Value}
theorem elemOf_inv {t el : TypeId} (h : elemOf P t = some el) : P.underlying t = some (.slice el) := by
  obtain ⟨d, hd, h⟩ := ob_some h
  cases d <;> first | (injection h with h; subst h; exact hd) | cases h
theorem arrOf_inv {t : TypeId} {q} (h : arrOf P t = some q) : P.underlying t = some (.array q.1 q.2) := by
  obtain ⟨d, hd, h⟩ := ob_some h
  cases d <;> first | (injection h with h; subst h; exact hd) | cases h
theorem natsOf_extract (b : ByteArray) (l h : Nat) : natsOf (b.extract l h).data.toList = ((natsOf b.data.toList).drop l).take (h - l) := by
  unfold natsOf
  simp [List.map_take, List.map_drop]
theorem natsOf_size (b : ByteArray) : (natsOf b.data.toList).length = b.size := by simp [natsOf]
theorem shift_addr (r base off l m sz : Nat) : (if m = l then (Addr.mk r (base + off) none) else (Addr.mk r (base + off) none).add (l * sz)) = ⟨r, base + shiftOff off l m sz, none⟩ := by
  unfold shiftOff
  split
  · rename_i h; subst h
    have : Nat.beq m m = true := Nat.beq_refl m
    rw [this]; rfl
  · rename_i h
    have : Nat.beq m l = false := by
      cases hb : Nat.beq m l with
      | false => rfl
      | true => exact absurd (beq_eq hb) h
    rw [this, add_mk, Nat.add_assoc]; rfl
theorem slArr_ok (he : EnvR ρ e σ) {q : Nat × TypeId} {b off r base en : Nat} {lo hi mx : Option Operand} {o : OR} (hr : ρ b = some (r, base, en)) (h : slArr P e H q b off lo hi mx = some o) :
    ∃ v u, o = .val v H ∧ RV ρ v u ∧ (do
      let (l, h, m) ← Instr.sliceBounds false q.1 q.1 (lo.map σ) (hi.map σ) (mx.map σ)
      let size ← Go.sizeOf q.2
      pure (Value.slice (some (if m = l then (Addr.mk r (base + off) none) else (Addr.mk r (base + off) none).add (l * size))) (h - l) (m - l))).run P w = .ok u w := by
  obtain ⟨sz, hsz, h1⟩ := ob_some h
  obtain ⟨s, hs, h2⟩ := ob_some h1
  have := valH_inv h2
  subst this
  obtain ⟨hrun, h3, h4, h5⟩ := sliceOf_run (P := P) (w := w) he hs false
  refine ⟨_, .slice (some ⟨r, base + shiftOff off s.1 s.2.2 sz, none⟩) (s.2.1 - s.1) (s.2.2 - s.1), rfl, .sfix hr (by show s.2.1 - s.1 ≤ s.2.2 - s.1; omega), ?_⟩
  rw [Sem.run_bind, hrun, Result.andThen_ok]
  obtain ⟨l, h, m⟩ := s
  simp only [Sem.run_bind, run_sizeOf' hsz w, Result.andThen_ok, shift_addr]; rfl
theorem slice_ok (he : EnvR ρ e σ) {t : TypeId} {x : Operand} {lo hi mx : Option Operand} {o : OR} (h : opSlice P e H t x lo hi mx = some o) :
    QOK P ρ H w (do pure (.value (← Instr.sliceAt t (σ x) (lo.map σ) (hi.map σ) (mx.map σ)))) o := by
  obtain ⟨v, hv, h1⟩ := ob_some h
  have hx := he _ _ hv
  clear h
  generalize σ x = u at *
  cases v
  case str s =>
    obtain ⟨d, hd, h2⟩ := ob_some (x := P.underlying t) h1
    obtain ⟨_, hd', h3⟩ := ob_some h2
    obtain ⟨_, hm, h4⟩ := ob_some h3
    have ed : d = .string := by cases d <;> first | rfl | cases hd'
    have em : mx = none := by cases mx <;> first | rfl | cases hm
    subst ed em
    obtain ⟨q, hq, h5⟩ := ob_some h4
    obtain ⟨k, hk, h6⟩ := ob_some h5
    cases hx with
    | str b =>
      rw [lenL_zero, natsOf_size] at hq
      obtain ⟨hrun, _, _, _⟩ := sliceOf_run (P := P) (w := w) he hq false
      obtain ⟨e1, e2⟩ := takeL_some _ _ _ hk
      rw [dropL_eq] at e1
      have e3 : k = natsOf (b.extract q.1 q.2.1).data.toList := by rw [natsOf_extract, e1]; rfl
      subst e3
      refine qok_of h6 (u := .string (b.extract q.1 q.2.1)) ?_ (.str _)
      unfold Instr.sliceAt
      rw [Sem.run_bind, run_underlying hd w, Result.andThen_ok]
      unfold Instr.slice
      simp only [Sem.run_bind, run_underlying hd w, Result.andThen_ok, Option.map_none, Option.isSome_none, Bool.false_eq_true, if_false]
      simp only [Option.map_none] at hrun
      rw [hrun]; rfl
  case slice b off len cap =>
    obtain ⟨el, hel, h2⟩ := ob_some (x := elemOf P t) h1
    obtain ⟨sz, hsz, h3⟩ := ob_some h2
    have hd := elemOf_inv hel
    obtain ⟨r, base, en, k, hr, rfl, hle, hcap⟩ := slice_rel hx
    have fin : ∀ (q : Nat × Nat × Nat), (Instr.sliceBounds true len k (lo.map σ) (hi.map σ) (mx.map σ)).run P w = .ok q w →
        (Instr.sliceAt t (.slice (some ⟨r, base + off, none⟩) len k) (lo.map σ) (hi.map σ) (mx.map σ)).run P w = .ok (.slice (some ⟨r, base + shiftOff off q.1 q.2.2 sz, none⟩) (q.2.1 - q.1) (q.2.2 - q.1)) w := by
      intro q hq
      unfold Instr.sliceAt
      rw [Sem.run_bind, run_underlying hd w, Result.andThen_ok]
      unfold Instr.slice
      simp only [Sem.run_bind, run_underlying hd w, Result.andThen_ok, hq, run_sizeOf' hsz w]
      obtain ⟨l, h, m⟩ := q
      have := shift_addr r base off l m sz
      simp only [Option.map_some]
      rw [← this]
      split <;> rfl
    cases cap with
    | fix k' =>
      have hcap' : k = k' := hcap
      subst hcap'
      obtain ⟨q, hq, h4⟩ := ob_some (x := sliceOf e len k lo hi mx) h3
      obtain ⟨hrun, h5, h6, h7⟩ := sliceOf_run (P := P) (w := w) he hq true
      exact qok_of h4 (fin q hrun) (.sfix hr (by show q.2.1 - q.1 ≤ q.2.2 - q.1; omega))
    | opn st =>
      obtain ⟨hend, hst⟩ : base + off + k * st = en ∧ 0 < st := hcap
      cases mx with
      | some y => cases h3
      | none =>
        obtain ⟨hh, hhi, h4⟩ := ob_some (x := optNat e len hi) h3
        obtain ⟨l, hlo, h5⟩ := ob_some h4
        obtain ⟨b1, h6⟩ := iteB_some h5
        obtain ⟨b2, h7⟩ := iteB_some h6
        obtain ⟨b3, h8⟩ := iteB_some h7
        have b1 := ble_le b1
        have b2 := ble_le b2
        have b3 := beq_eq b3
        subst b3
        have hrun : (Instr.sliceBounds true len k (lo.map σ) (hi.map σ) ((none : Option Operand).map σ)).run P w = .ok (l, hh, k) w := by
          have hk : hh ≤ k := by omega
          unfold Instr.sliceBounds
          rcases optNat_inv he hhi with ⟨rfl, rfl⟩ | ⟨yb, kb, rfl, eb⟩ <;> rcases optNat_inv he hlo with ⟨rfl, rfl⟩ | ⟨yl, kl, rfl, el'⟩ <;> simp [*, run_sliceBound b1, run_sliceBound hk]
        have hf := fin _ hrun
        cases hl0 : Nat.beq l 0 with
        | true =>
          rw [hl0] at h8
          have l0 := beq_eq hl0
          subst l0
          have h9 : valH H (.slice b off hh (.opn st)) = some o := h8
          refine qok_of h9 (u := _) hf ?_
          have e1 : shiftOff off 0 k st = off := by
            unfold shiftOff
            cases Nat.beq k 0 <;> simp
          simp only [e1, Nat.sub_zero]
          exact .sopn hr (by omega) hend hst
        | false =>
          rw [hl0] at h8
          obtain ⟨b4, h9⟩ := iteB_some h8
          have b4 := blt_lt b4
          refine qok_of h9 (u := _) hf ?_
          have e1 : shiftOff off l k st = off + l * st := by
            unfold shiftOff
            have : Nat.beq k l = false := by
              cases hb : Nat.beq k l with
              | false => rfl
              | true => have := beq_eq hb; omega
            rw [this]; rfl
          simp only [e1]
          refine .sopn hr (by show hh - l ≤ k - l; omega) ?_ hst
          show base + (off + l * st) + (k - l) * st = en
          have : (k - l) * st = k * st - l * st := Nat.sub_mul _ _ _
          have h10 : l * st ≤ k * st := Nat.mul_le_mul_right _ (by omega)
          rw [this]; omega
  case nils =>
    obtain ⟨el, hel, h2⟩ := ob_some (x := elemOf P t) h1
    obtain ⟨sz, hsz, h3⟩ := ob_some h2
    obtain ⟨q, hq, h4⟩ := ob_some h3
    have hd := elemOf_inv hel
    cases hx
    obtain ⟨hrun, h5, h6, h7⟩ := sliceOf_run (P := P) (w := w) he hq true
    obtain ⟨l, h, m⟩ := q
    simp only at h5 h6 h7
    have e1 : m = 0 := by omega
    have e2 : h = 0 := by omega
    have e3 : l = 0 := by omega
    subst e1 e2 e3
    refine qok_of h4 (u := .slice none 0 0) ?_ .nils
    unfold Instr.sliceAt
    rw [Sem.run_bind, run_underlying hd w, Result.andThen_ok]
    unfold Instr.slice
    simp only [Sem.run_bind, run_underlying hd w, Result.andThen_ok, hrun, run_sizeOf' hsz w]
    rfl
  case ptr b off =>
    obtain ⟨d, hd, h2⟩ := ob_some (x := P.underlying t) h1
    cases hx with
    | ptr hr =>
      cases d with
      | array n el =>
        obtain ⟨v, u, rfl, hvu, hrun⟩ := slArr_ok (P := P) (w := w) he hr (q := (n, el)) h2
        refine ⟨v, u, rfl, ?_, hvu⟩
        unfold Instr.sliceAt
        rw [Sem.run_bind, Sem.run_bind, run_underlying hd w, Result.andThen_ok]
        simp only [Instr.sureAddr, Sem.run_bind, Sem.run_pure, Result.andThen_ok] at hrun ⊢
        rw [hrun]; rfl
      | pointer a =>
        obtain ⟨q, hq, h3⟩ := ob_some (x := arrOf P a) h2
        obtain ⟨v, u, rfl, hvu, hrun⟩ := slArr_ok (P := P) (w := w) he hr (q := q) h3
        refine ⟨v, u, rfl, ?_, hvu⟩
        unfold Instr.sliceAt
        rw [Sem.run_bind, Sem.run_bind, run_underlying hd w, Result.andThen_ok]
        unfold Instr.slice
        simp only [Sem.run_bind, run_underlying hd w, Result.andThen_ok, asAddr, Sem.run_pure, run_underlying (arrOf_inv hq) w] at hrun ⊢
        rw [hrun]; rfl
      | _ => cases h2
  all_goals cases h1
/-! ### Structs and rows put together -/
theorem RVs.set_over {cs : List AV} {vs : List Value} (h : All2 (RV ρ) cs vs) {ys : List AV} {us : List Value} (hy : All2 (RV ρ) ys us) {off : Nat} {r : List AV} (ho : over ys off cs = some r) :
    All2 (RV ρ) r (vs.take off ++ us ++ vs.drop (off + us.length)) ∧ off + us.length ≤ vs.length := by
  obtain ⟨e1, e2⟩ := over_some ys off cs r ho
  subst e1
  rw [← hy.length, ← h.length]
  exact ⟨((h.take off).append hy).append (h.drop _), e2⟩
theorem setCells_at (off : Nat) : ∀ (us : List Value) (k : Nat) (c : Array Value), off + k + us.length ≤ c.size →
    ((us.zipIdx k).foldl (fun cs (x : Value × Nat) => cs.setIfInBounds (off + x.2) x.1) c).size = c.size ∧
    ∀ i, ((us.zipIdx k).foldl (fun cs (x : Value × Nat) => cs.setIfInBounds (off + x.2) x.1) c)[i]? = if off + k ≤ i ∧ i < off + k + us.length then us[i - (off + k)]? else c[i]? := by
  intro us
  induction us with
  | nil => intro k c _; exact ⟨rfl, fun i => by rw [if_neg (by simp)]; rfl⟩
  | cons u us ih =>
    intro k c h
    simp only [List.length_cons] at h
    rw [List.zipIdx_cons, List.foldl_cons]
    obtain ⟨h1, h2⟩ := ih (k + 1) (c.setIfInBounds (off + k) u) (by simp; omega)
    refine ⟨by simpa using h1, fun i => ?_⟩
    rw [h2 i]
    by_cases e : i = off + k
    · subst e
      rw [if_neg (by omega), if_pos (by simp)]
      have : off + k < c.size := by omega
      simp [this]
    · by_cases h3 : off + (k + 1) ≤ i ∧ i < off + (k + 1) + us.length
      · rw [if_pos h3, if_pos (by simp; omega)]
        have : i - (off + k) = (i - (off + (k + 1))) + 1 := by omega
        rw [this]; simp
      · rw [if_neg h3, if_neg (by simp; omega), Array.getElem?_setIfInBounds_ne (by omega)]
theorem setCells_eq (us : List Value) (c : Array Value) (off : Nat) (h : off + us.length ≤ c.size) :
    (us.toArray.zipIdx.foldl (fun cs (x : Value × Nat) => cs.setIfInBounds (off + x.2) x.1) c) = (c.toList.take off ++ us ++ c.toList.drop (off + us.length)).toArray := by
  have e1 : us.toArray.zipIdx = (us.zipIdx 0).toArray := by simp
  rw [e1, List.foldl_toArray]
  obtain ⟨h1, h2⟩ := setCells_at off us 0 c (by omega)
  apply Array.ext_getElem?
  intro i
  rw [h2 i]
  have hl : (c.toList.take off).length = off := by simp; omega
  by_cases h3 : off + 0 ≤ i ∧ i < off + 0 + us.length
  · rw [if_pos h3]
    simp only [List.getElem?_toArray, List.append_assoc]
    rw [List.getElem?_append_right (by omega), List.getElem?_append_left (by omega)]
    congr 1; omega
  · rw [if_neg h3]
    simp only [List.getElem?_toArray, List.append_assoc]
    by_cases h4 : i < off
    · rw [List.getElem?_append_left (by omega), List.getElem?_take_of_lt h4, Array.getElem?_toList]
    · rw [List.getElem?_append_right (by omega), List.getElem?_append_right (by omega), List.getElem?_drop, Array.getElem?_toList]
      congr 1; omega
theorem fill_ok (he : EnvR ρ e σ) (place place' : Nat → Option (Nat × Nat)) (hp : ∀ i q, place' i = some q → place i = some q) : ∀ (ps : List (Nat × Operand)) (z cs : List AV) (us : List Value),
    fillParts e place' ps z = some cs → All2 (RV ρ) z us → (∀ u ∈ us, Scalar u) →
    ∃ us' : List Value, Instr.fill place us.toArray (ps.map fun (p : Nat × Operand) => (p.1, σ p.2)) = some us'.toArray ∧ All2 (RV ρ) cs us' ∧ ∀ u ∈ us', Scalar u := by
  intro ps
  induction ps with
  | nil => intro z cs us h hz hs; have h' : some z = some cs := h; injection h' with h'; subst h'; exact ⟨us, rfl, hz, hs⟩
  | cons p ps ih =>
    intro z cs us h hz hs
    obtain ⟨z', h1, h2⟩ := ob_some (x := fillOne e place' z p) (f := fillParts e place' ps) h
    obtain ⟨q, hq, h3⟩ := ob_some h1
    obtain ⟨v, hv, h4⟩ := ob_some h3
    obtain ⟨ys, hys, h5⟩ := ob_some h4
    obtain ⟨hb, h6⟩ := iteB_some h5
    rw [lenL_zero] at hb
    have hlen := beq_eq hb
    obtain ⟨xs, hc, hall, hsc⟩ := cells_rel hys (he _ _ hv)
    obtain ⟨hr1, hr2⟩ := RVs.set_over hz hall h6
    have hsc' : ∀ u ∈ us.take q.1 ++ xs ++ us.drop (q.1 + xs.length), Scalar u := by
      intro u hu
      simp only [List.mem_append] at hu
      rcases hu with (hu | hu) | hu
      · exact hs u (List.mem_of_mem_take hu)
      · exact hsc u hu
      · exact hs u (List.mem_of_mem_drop hu)
    obtain ⟨us', hf, h7, h8⟩ := ih z' cs _ h2 hr1 hsc'
    refine ⟨us', ?_, h7, h8⟩
    rw [List.map_cons]
    unfold Instr.fill
    simp only [hp _ _ hq, hc]
    have hxl : xs.length = q.2 := by rw [← hall.length]; exact hlen
    rw [if_neg (by simp [hxl]; omega)]
    have := setCells_eq xs us.toArray q.1 (by simpa using hr2)
    rw [this]
    simpa using hf
theorem parts_list (ps : Array (Nat × Operand)) : (ps.map fun (x : Nat × Operand) => (x.1, σ x.2)).toList = ps.toList.map fun (p : Nat × Operand) => (p.1, σ p.2) := by simp
theorem mapM_places {fs : Array Field} (h : ∀ (i : Nat) (fd : Field), fs[i]? = some fd → ∃ n, size P fd.type = some n) :
    ∃ l : List (Nat × Nat), (fs.mapM fun f => (do pure (f.offset, ← Go.sizeOf f.type) : Sem (Nat × Nat))).run P w = .ok l.toArray w ∧ ∀ (i : Nat) (fd : Field) (n : Nat), fs[i]? = some fd → size P fd.type = some n → l[i]? = some (fd.offset, n) := by
  obtain ⟨fs⟩ := fs
  have key : ∀ (fs : List Field), (∀ (i : Nat) (fd : Field), fs[i]? = some fd → ∃ n, size P fd.type = some n) →
      ∃ l : List (Nat × Nat), (fs.mapM fun f => (do pure (f.offset, ← Go.sizeOf f.type) : Sem (Nat × Nat))).run P w = .ok l w ∧ ∀ (i : Nat) (fd : Field) (n : Nat), fs[i]? = some fd → size P fd.type = some n → l[i]? = some (fd.offset, n) := by
    intro fs
    induction fs with
    | nil => intro _; exact ⟨[], rfl, by simp⟩
    | cons f fs ih =>
      intro h
      obtain ⟨n, hn⟩ := h 0 f rfl
      obtain ⟨l, hl, hg⟩ := ih fun i fd hi => h (i + 1) fd (by simpa using hi)
      refine ⟨(f.offset, n) :: l, ?_, fun i fd m hi hm => ?_⟩
      · rw [List.mapM_cons]
        simp only [Sem.run_bind, run_sizeOf' hn w, Result.andThen_ok, Sem.run_pure, hl]
      · cases i with
        | zero => simp at hi; subst hi; rw [hn] at hm; injection hm with hm; subst hm; rfl
        | succ i => exact hg i fd m (by simpa using hi) hm
  obtain ⟨l, hl, hg⟩ := key fs fun i fd hi => h i fd (by simpa using hi)
  refine ⟨l, ?_, fun i fd n hi hn => hg i fd n (by simpa using hi) hn⟩
  rw [List.mapM_toArray]
  rw [Sem.run_map, hl]; rfl
theorem build_ok (he : EnvR ρ e σ) {t : TypeId} {ps : Array (Nat × Operand)} {r : OR} (h : opBuild P e H t ps.toList = some r) :
    QOK P ρ H w (do pure (.value (← Instr.build t (ps.map fun (x : Nat × Operand) => (x.1, σ x.2))))) r := by
  obtain ⟨z, hz, h1⟩ := ob_some h
  obtain ⟨d, hd, h2⟩ := ob_some h1
  obtain ⟨zv, us, hzv, hcells, hall, hsc⟩ := zeroCells_inv hz
  have hrun : ∀ (place place' : Nat → Option (Nat × Nat)) (cs : List AV), (∀ i q, place' i = some q → place i = some q) → fillParts e place' ps.toList z = some cs →
      ∃ us', Instr.fill place zv.cells (ps.map fun (x : Nat × Operand) => (x.1, σ x.2)).toList = some us' ∧ RV ρ (.agg cs) (.agg us') := by
    intro place place' cs hp hf
    obtain ⟨us', h3, h4, h5⟩ := fill_ok he place place' hp ps.toList z cs us hf (hall ρ) hsc
    exact ⟨us'.toArray, by rw [parts_list, hcells]; exact h3, .agg h4 h5⟩
  cases d with
  | struct fs =>
    obtain ⟨hs, h3⟩ := iteB_some (b := sizedF P fs) h2
    obtain ⟨cs, hcs, h4⟩ := ob_some h3
    obtain ⟨l, hl, hg⟩ := mapM_places (P := P) (w := w) (fs := fs) (fun i fd hi => by
      have := List.all_eq_true.1 hs fd (by have := Array.mem_of_getElem? hi; simpa using this)
      exact Option.isSome_iff_exists.1 this)
    obtain ⟨us', hf, hv⟩ := hrun (l.toArray[·]?) (fieldSz P t) cs (fun i q hq => by
      obtain ⟨fs', fd, h5, h6, h7, h8⟩ := fieldSz_inv hq
      rw [hd] at h5; injection h5 with h5; injection h5 with h5; subst h5
      have := hg i fd q.2 h6 h8
      simpa [h7] using this) hcs
    refine qok_of h4 (u := .agg us') ?_ hv
    unfold Instr.build
    simp only [Sem.run_bind, hzv w, run_underlying hd w, Result.andThen_ok, hl]
    rw [hf]; rfl
  | array n el =>
    obtain ⟨sz, hsz, h3⟩ := ob_some (x := size P el) h2
    obtain ⟨cs, hcs, h4⟩ := ob_some h3
    obtain ⟨us', hf, hv⟩ := hrun (fun i => some (i * sz, sz)) (arrPlace sz) cs (fun i q hq => hq) hcs
    refine qok_of h4 (u := .agg us') ?_ hv
    unfold Instr.build
    simp only [Sem.run_bind, hzv w, run_underlying hd w, Result.andThen_ok, run_sizeOf' hsz w]
    rw [hf]; rfl
  | _ => cases h2
/-! ### Assertions, maps -/
theorem asIface_rel {v : AV} {u : Value} {q} (h : asIface v = some q) (hv : RV ρ v u) : ∃ x, u = .iface q.1 x ∧ RV ρ q.2 x := by
  cases hv
  case iface hx => injection h with h; subst h; exact ⟨_, rfl, hx⟩
  all_goals cases h
theorem found_rel {v : AV} {u : Value} (h : RV ρ v u) (ok b : Bool) : RV ρ (found v ok b) (if ok then .tuple #[u, .bool b] else u) := by
  cases ok with
  | false => exact h
  | true => exact .tup (vs := [u, .bool b]) (.cons h (.cons (.bool b) .nil))
theorem run_assert_iface {d : TypeDesc} {t xt u : TypeId} {x : Value} {ok : Bool} (hd : P.underlying t = some d) (hn : notIface d = true) (h : u = t) :
    (Instr.typeAssert (.iface u x) xt t ok).run P w = .ok (if ok then .tuple #[x, .bool true] else x) w := by
  unfold Instr.typeAssert
  rw [Sem.run_bind, run_underlying hd w, Result.andThen_ok]
  cases d <;> first | (show Sem.run P (if u = t then _ else _) w = _; rw [if_pos h]; rfl) | cases hn
theorem run_assert_not {d : TypeDesc} {t xt u : TypeId} {x zv : Value} (hd : P.underlying t = some d) (hn : notIface d = true) (h : u ≠ t) (hz : (zeroValue t).run P w = .ok zv w) :
    (Instr.typeAssert (.iface u x) xt t true).run P w = .ok (.tuple #[zv, .bool false]) w := by
  unfold Instr.typeAssert
  rw [Sem.run_bind, run_underlying hd w, Result.andThen_ok]
  cases d <;> first | (show Sem.run P (if u = t then _ else _) w = _; rw [if_neg h]; simp [hz]) | cases hn
theorem run_assert_nil {d : TypeDesc} {t xt : TypeId} {zv : Value} (hd : P.underlying t = some d) (hn : notIface d = true) (hz : (zeroValue t).run P w = .ok zv w) :
    (Instr.typeAssert .nilIface xt t true).run P w = .ok (.tuple #[zv, .bool false]) w := by
  unfold Instr.typeAssert
  rw [Sem.run_bind, run_underlying hd w, Result.andThen_ok]
  cases d <;> first | (simp [hz]; done) | cases hn
theorem assert_ok (he : EnvR ρ e σ) {x : Operand} {xt t : TypeId} {ok : Bool} {r : OR} (h : opAssert P e H x t ok = some r) :
    QOK P ρ H w (do pure (.value (← Instr.typeAssert (σ x) xt t ok))) r := by
  obtain ⟨v, hv, h1⟩ := ob_some h
  obtain ⟨d, hd, h2⟩ := ob_some h1
  obtain ⟨hni, h3⟩ := iteB_some h2
  have hx := he _ _ hv
  clear h h1 h2
  generalize σ x = u at *
  rcases orElseO_some h3 with h4 | ⟨_, h4⟩
  · obtain ⟨q, hq, h5⟩ := ob_some h4
    obtain ⟨y, rfl, hy⟩ := asIface_rel hq hx
    cases hb : Nat.beq q.1 t with
    | true =>
      rw [hb] at h5
      have h6 : valH H (found q.2 ok true) = some r := h5
      exact qok_of h6 (run_assert_iface hd hni (beq_eq hb)) (found_rel hy ok true)
    | false =>
      rw [hb] at h5
      obtain ⟨hok, h6⟩ := iteB_some (b := ok) h5
      subst hok
      obtain ⟨z, hz, h7⟩ := ob_some h6
      obtain ⟨zv, hzv, hzr⟩ := zero_inv hz
      exact qok_of h7 (run_assert_not hd hni (beq_ne hb) (hzv w)) (found_rel (hzr ρ) true false)
  · obtain ⟨_, hq, h5⟩ := ob_some h4
    obtain ⟨hok, h6⟩ := iteB_some (b := ok) h5
    subst hok
    obtain ⟨z, hz, h7⟩ := ob_some h6
    obtain ⟨zv, hzv, hzr⟩ := zero_inv hz
    have eu : u = .nilIface := by cases hx <;> first | rfl | cases hq
    subst eu
    exact qok_of h7 (run_assert_nil hd hni (hzv w)) (found_rel (hzr ρ) true false)
/-! ### One integer: un, min, max, len -/
theorem kEq_eq {a b : IntKind} (h : kEq a b = true) : a = b := by cases a <;> cases b <;> first | rfl | cases h
theorem beq_dec (a b : Nat) : Nat.beq a b = decide (a = b) := by
  cases h : Nat.beq a b with
  | true => simp [beq_eq h]
  | false => simp [beq_ne h]
theorem blt_dec (a b : Nat) : Nat.blt a b = decide (a < b) := by
  cases h : Nat.blt a b with
  | true => simp [blt_lt h]
  | false => have := blt_ge h; simp; omega
theorem intEq_iff (a b : Int) : intEq a b = decide (a = b) := by
  cases a <;> cases b <;> simp [intEq, beq_dec]
  omega
theorem intLt_iff (a b : Int) : intLt a b = decide (a < b) := by
  cases a with
  | ofNat m => cases b with
    | ofNat n => simp [intLt, blt_dec]
    | negSucc n => have : ¬ ((m : Int) < Int.negSucc n) := by have := Int.negSucc_lt_zero n; omega
                   simp [intLt, this]
  | negSucc m => cases b with
    | ofNat n => have : (Int.negSucc m < (n : Int)) := by have := Int.negSucc_lt_zero m; omega
                 simp [intLt, this]
    | negSucc n =>
      simp only [intLt, blt_dec]
      congr 1
      simp only [Int.negSucc_eq, eq_iff_iff]
      omega
theorem mkInt_eq {k : IntKind} {z : Int} {v : AV} (h : mkInt k z = some v) : v = .int k z := by
  unfold mkInt at h
  cases z with
  | ofNat n => cases n <;> (simp at h; exact h.symm)
  | negSucc n => cases n <;> (simp at h; exact h.symm)
theorem wrapI64_eq (z : Int) : wrapI64 z = IntKind.i64.wrap z := by
  cases z with
  | ofNat n =>
    show iteB (Nat.ble n 9223372036854775807) (Int.ofNat n) (IntKind.i64.wrap (Int.ofNat n)) = _
    cases h : Nat.ble n 9223372036854775807 with
    | true => have := ble_le h; rw [iteB_true]; rw [IntWalk.i64_in _ ⟨by have : (0 : Int) ≤ Int.ofNat n := Int.natCast_nonneg n; omega, by show (n : Int) ≤ _; omega⟩]
    | false => rw [iteB_false]
  | negSucc n =>
    show iteB (Nat.ble n 9223372036854775807) (Int.negSucc n) (IntKind.i64.wrap (Int.negSucc n)) = _
    cases h : Nat.ble n 9223372036854775807 with
    | true => have := ble_le h; rw [iteB_true]; rw [IntWalk.i64_in _ ⟨by rw [Int.negSucc_eq]; omega, by rw [Int.negSucc_eq]; omega⟩]
    | false => rw [iteB_false]
theorem wrapK_eq (k : IntKind) (z : Int) : wrapK k z = k.wrap z := by
  cases k <;> first
    | exact wrapI64_eq z
    | rfl
    | (cases z with
       | ofNat n => simp [wrapK, wrapN, IntKind.wrap, IntKind.bits, IntKind.signed]; rfl
       | negSucc n => rfl)
theorem un_ok (he : EnvR ρ e σ) {op : UnOp} {x : Operand} {r : OR} (h : opUn e H op x = some r) : QOK P ρ H w (do pure (.value (← Op.unary op (σ x)))) r := by
  obtain ⟨a, ha, h1⟩ := ob_some h
  obtain ⟨v, hv, h2⟩ := ob_some h1
  have hx := he _ _ ha
  cases op with
  | not =>
    obtain ⟨b, hb, hv⟩ := ob_some (x := a.asBool) hv
    injection hv with hv; subst hv
    rw [asBool_rel hb hx]
    exact qok_of h2 (u := .bool (!b)) rfl (.bool _)
  | neg =>
    obtain ⟨q, hq, hv⟩ := ob_some (x := a.asInt) hv
    have := mkInt_eq hv; subst this
    rw [(asInt_rel hq hx).2]
    refine qok_of h2 (u := .int q.1 (q.1.wrap (0 - q.2))) rfl ?_
    rw [wrapK_eq]; exact .int _ _
  | xor =>
    obtain ⟨q, hq, hv⟩ := ob_some (x := a.asInt) hv
    have := mkInt_eq hv; subst this
    rw [(asInt_rel hq hx).2]
    exact qok_of h2 (u := _) rfl (.int _ _)
  | plus => cases hv
end Go.Vex
namespace Go.Vex
variable {P : Program} {ρ : Rho} {H : Hp} {w : World} {e : Env} {σ : Operand → Value}
theorem strEq_iff : ∀ (x y : List Nat), strEq x y = decide (x = y) := by
  intro x
  induction x with
  | nil => intro y; cases y <;> simp [strEq]
  | cons a x ih =>
    intro y
    cases y with
    | nil => simp [strEq]
    | cons b y =>
      show iteB (Nat.beq a b) (strEq x y) false = _
      cases h : Nat.beq a b with
      | true => have := beq_eq h; subst this; rw [iteB_true, ih]; simp
      | false => have := beq_ne h; rw [iteB_false]; simp [this]
theorem natsOf_inj {a b : List UInt8} (h : natsOf a = natsOf b) : a = b := by
  unfold natsOf at h
  induction a generalizing b with
  | nil => cases b <;> simp_all
  | cons x a ih =>
    cases b with
    | nil => simp at h
    | cons y b =>
      simp only [List.map_cons, List.cons.injEq] at h
      rw [UInt8.toNat_inj.1 h.1, ih h.2]
theorem toList_data (b : ByteArray) : b.toList = b.data.toList := ByteArray.toList_eq b
theorem strEq_bytes (a b : ByteArray) : strEq (natsOf a.data.toList) (natsOf b.data.toList) = (a.toList == b.toList) := by
  rw [strEq_iff, toList_data, toList_data]
  by_cases h : a.data.toList = b.data.toList
  · simp [h]
  · have : natsOf a.data.toList ≠ natsOf b.data.toList := fun e => h (natsOf_inj e)
    simp only [this, decide_false]
    exact (beq_eq_false_iff_ne.2 h).symm
theorem strLt_eq : ∀ (x y : List UInt8), strLt (natsOf x) (natsOf y) = Op.bytesLess x y := by
  intro x
  induction x with
  | nil => intro y; cases y <;> rfl
  | cons a x ih =>
    intro y
    cases y with
    | nil => rfl
    | cons b y =>
      show iteB (Nat.blt a.toNat b.toNat) true (iteB (Nat.beq a.toNat b.toNat) (strLt (natsOf x) (natsOf y)) false) = (decide (a < b) || (a == b && Op.bytesLess x y))
      rw [ih, blt_dec, beq_dec]
      have h1 : (a < b) ↔ (a.toNat < b.toNat) := UInt8.lt_iff_toNat_lt
      have h2 : (a == b) = decide (a.toNat = b.toNat) := by
        rw [Bool.eq_iff_iff]; simp [UInt8.toNat_inj]
      rw [h2]
      by_cases hl : a.toNat < b.toNat
      · simp [hl, h1.2 hl]
      · have : ¬ a < b := fun h => hl (h1.1 h)
        simp only [hl, this, decide_false, iteB_false, Bool.false_or]
        by_cases he : a.toNat = b.toNat <;> simp [he]
/-! ### '==' -/
theorem eqCellD_ok {d : TypeDesc} {x y : AV} {u v : Value} {r : Bool} (h : eqCellD d x y = some r) (hx : RV ρ x u) (hy : RV ρ y v) :
    (∀ (t : TypeId) (n : Nat), P.underlying t = some d → (Op.equalIn (n + 1) t u v).run P w = .ok r w) ∧ Instr.sameNow d u v = some r := by
  cases d with
  | bool =>
    obtain ⟨a, ha, h⟩ := ob_some (x := x.asBool) h
    obtain ⟨b, hb, h⟩ := ob_some h
    injection h with h; subst h
    rw [asBool_rel ha hx, asBool_rel hb hy]
    exact ⟨fun t n ht => run_equalIn_bool' w n t a b ht, rfl⟩
  | int k =>
    obtain ⟨a, ha, h⟩ := ob_some (x := x.asInt) h
    obtain ⟨b, hb, h⟩ := ob_some h
    obtain ⟨hk, h⟩ := iteB_some h
    injection h with h; subst h
    rw [(asInt_rel ha hx).2, (asInt_rel hb hy).2]
    have hk := kEq_eq hk
    have e1 : intEq a.2 b.2 = (a.2 == b.2) := by rw [intEq_iff, Bool.eq_iff_iff]; simp
    rw [hk, e1]
    refine ⟨fun t n ht => ?_, by simp [Instr.sameNow]⟩
    rw [← hk]
    have := run_equalIn_int (P := P) w n t a.1 k a.2 b.2 ht
    rw [hk] at this ⊢; exact this
  | string =>
    obtain ⟨a, ha, h⟩ := ob_some (x := x.asStr) h
    obtain ⟨b, hb, h⟩ := ob_some h
    injection h with h; subst h
    obtain ⟨a', rfl, rfl⟩ := asStr_rel ha hx
    obtain ⟨b', rfl, rfl⟩ := asStr_rel hb hy
    rw [strEq_bytes]
    exact ⟨fun t n ht => run_equalIn_string w n t a' b' ht, by simp [Instr.sameNow, beq_toListBytes]⟩
  | _ => cases h
theorem eqCellT_ok {t : TypeId} {x y : AV} {u v : Value} {r : Bool} (h : eqCellT P t x y = some r) (hx : RV ρ x u) (hy : RV ρ y v) (n : Nat) : (Op.equalIn (n + 1) t u v).run P w = .ok r w := by
  obtain ⟨d, hd, h⟩ := ob_some h
  exact (eqCellD_ok (P := P) (w := w) h hx hy).1 t n hd
theorem basicTy_inv {t : TypeId} (h : basicTy P t = true) : ∃ d, P.underlying t = some d ∧ isAggD d = false := by
  unfold basicTy at h
  split at h
  · rename_i hd; exact ⟨_, hd, rfl⟩
  · rename_i hd; exact ⟨_, hd, rfl⟩
  · rename_i hd; exact ⟨_, hd, rfl⟩
  · cases h
theorem run_part_basic {t : TypeId} (h : basicTy P t = true) {vs : List Value} {i : Nat} {u : Value} (hu : vs[i]? = some u) : (part t vs.toArray i).run P w = .ok u w := by
  obtain ⟨d, hd, ha⟩ := basicTy_inv h
  have h1 : (isAgg t).run P w = .ok false w := by
    unfold isAgg
    rw [Sem.run_bind, run_underlying hd w, Result.andThen_ok]
    cases d <;> first | rfl | cases ha
  unfold part
  rw [Sem.run_bind, h1, Result.andThen_ok, if_neg (by simp)]
  have : vs.toArray[i]? = some u := by simpa using hu
  rw [this]; rfl
theorem eqFs_ok : ∀ (fs : List Field) (i : Nat) (k l : List AV) (us vs : List Value) (r : Bool), flatFrom P i fs = true → eqFs P fs k l = some r → All2 (RV ρ) k (us.drop i) → All2 (RV ρ) l (vs.drop i) → ∀ n,
    (Op.eqFields (n + 1) us.toArray vs.toArray fs).run P w = .ok r w := by
  intro fs
  induction fs with
  | nil => intro i k l us vs r _ h _ _ n; have h' : some true = some r := h; injection h' with h'; subst h'; rfl
  | cons f fs ih =>
    intro i k l us vs r hf h hk hl n
    have hf' : (Nat.beq f.offset i && (f.name != "_" && (basicTy P f.type && flatFrom P (i + 1) fs))) = true := hf
    simp only [Bool.and_eq_true] at hf'
    obtain ⟨h1, h2, h3, h4⟩ := hf'
    have h1 := beq_eq h1
    have h0 : (ob (nth k 0) fun a => ob (nth l 0) fun b => ob (eqCellT P f.type a b) fun r => iteB r (eqFs P fs (dropL 1 k) (dropL 1 l)) (some false)) = some r := h
    obtain ⟨a, ha, h5⟩ := ob_some h0
    obtain ⟨b, hb, h6⟩ := ob_some h5
    obtain ⟨q, hq, h7⟩ := ob_some h6
    rw [nth_eq] at ha hb
    obtain ⟨u, hu, hau⟩ := hk.get 0 a ha
    obtain ⟨v, hv, hbv⟩ := hl.get 0 b hb
    have hu' : us[i]? = some u := by simpa using hu
    have hv' : vs[i]? = some v := by simpa using hv
    have hq' := eqCellT_ok (P := P) (w := w) hq hau hbv n
    unfold Op.eqFields
    rw [if_pos (by simpa using h2), h1, Sem.run_bind, run_part_basic h3 hu', Result.andThen_ok, Sem.run_bind, run_part_basic h3 hv', Result.andThen_ok, Sem.run_bind, hq', Result.andThen_ok]
    cases q with
    | false => have h8 : some false = some r := h7; injection h8 with h8; subst h8; rfl
    | true =>
      have h8 : eqFs P fs (dropL 1 k) (dropL 1 l) = some r := h7
      rw [if_neg (by simp)]
      rw [dropL_eq, dropL_eq] at h8
      exact ih (i + 1) _ _ us vs r h4 h8 (by simpa [List.drop_drop, Nat.add_comm] using hk.drop 1) (by simpa [List.drop_drop, Nat.add_comm] using hl.drop 1) n
theorem eqRow_loop {el : TypeId} {d : TypeDesc} (hd : P.underlying el = some d) (hb : basicTy P el = true) (hs : size P el = some 1) : ∀ (m i : Nat) (k l : List AV) (us vs : List Value) (r : Bool), eqRow d k l = some r → k.length = m →
    All2 (RV ρ) k (us.drop i) → All2 (RV ρ) l (vs.drop i) → ∀ n,
    (forIn (List.range' i m) ((none, ()) : Option Bool × Unit) fun i _ => (do
        let __do_lift ← part el us.toArray (i * 1)
        let __do_lift_1 ← part el vs.toArray (i * 1)
        let __do_lift ← Op.equalIn (n + 1) el __do_lift __do_lift_1
        if (!__do_lift) = true then pure (ForInStep.done (some false, ())) else pure (ForInStep.yield (none, ())) : Sem (ForInStep (Option Bool × Unit)))).run P w = .ok (if r then (none, ()) else (some false, ())) w := by
  intro m
  induction m with
  | zero =>
    intro i k l us vs r h hk _ _ n
    have : k = [] := List.length_eq_zero_iff.1 hk
    subst this
    have h' : some true = some r := h
    injection h' with h'; subst h'; rfl
  | succ m ih =>
    intro i k l us vs r h hk hku hlv n
    cases k with
    | nil => simp at hk
    | cons a k =>
      have h0 : (ob (nth l 0) fun b => ob (eqCellD d a b) fun r => iteB r (eqRow d k (dropL 1 l)) (some false)) = some r := h
      obtain ⟨b, hb', h6⟩ := ob_some h0
      obtain ⟨q, hq, h7⟩ := ob_some h6
      rw [nth_eq] at hb'
      obtain ⟨u, hu, hau⟩ := hku.get 0 a rfl
      obtain ⟨v, hv, hbv⟩ := hlv.get 0 b hb'
      have hu' : us[i * 1]? = some u := by simpa using hu
      have hv' : vs[i * 1]? = some v := by simpa using hv
      have hq' := (eqCellD_ok (P := P) (w := w) hq hau hbv).1 el n hd
      rw [List.range'_succ, List.forIn_cons, Sem.run_bind, Sem.run_bind, run_part_basic hb hu', Result.andThen_ok, Sem.run_bind, run_part_basic hb hv', Result.andThen_ok, Sem.run_bind, hq', Result.andThen_ok]
      cases q with
      | false => have h8 : some false = some r := h7; injection h8 with h8; subst h8; rfl
      | true =>
        have h8 : eqRow d k (dropL 1 l) = some r := h7
        rw [dropL_eq] at h8
        have := ih (i + 1) k (l.drop 1) us vs r h8 (by simpa using hk) (by simpa [List.drop_drop, Nat.add_comm] using hku.drop 1) (by simpa [List.drop_drop, Nat.add_comm] using hlv.drop 1) n
        simpa using this
end Go.Vex
namespace Go.Vex
variable {P : Program} {ρ : Rho} {H : Hp} {w : World} {e : Env} {σ : Operand → Value}
theorem flatN_inv {t : TypeId} {fs : List Field} (h : flatN P t = some fs) : ∃ a : Array Field, P.underlying t = some (.struct a) ∧ fs = a.toList ∧ flatFrom P 0 fs = true ∧ P.stoodInHeld t = false ∧ P.eqGuardType P.depth t = false := by
  obtain ⟨d, hd, h1⟩ := ob_some h
  obtain ⟨l, hl, h2⟩ := ob_some h1
  obtain ⟨h3, h4⟩ := iteB_some h2
  obtain ⟨h5, h6⟩ := iteB_none h4
  obtain ⟨h7, h8⟩ := iteB_none h6
  injection h8 with h8; subst h8
  cases d with
  | struct a => injection hl with hl; subst hl; exact ⟨a, hd, rfl, h3, h5, h7⟩
  | _ => cases hl
/-- What '==' needs. -/
def EqOK (P : Program) (w : World) (t : TypeId) (u v : Value) (r : Bool) : Prop :=
  (∀ op xo yo, (eqGuard op t xo yo u v).run P w = .ok () w) ∧ (Op.equal t u v).run P w = .ok r w
theorem guard_plain {op : BinOp} {t : TypeId} {xo yo : Operand} {u v : Value} (h : ¬ (u = .nilIface ∧ v = .nilIface) ∧ ¬ ((∃ a, u = .agg a) ∧ ∃ b, v = .agg b)) : (eqGuard op t xo yo u v).run P w = .ok () w := by
  cases op <;> first
    | rfl
    | (cases u <;> cases v <;> first | rfl | (exact absurd ⟨rfl, rfl⟩ h.1) | (exact absurd ⟨⟨_, rfl⟩, ⟨_, rfl⟩⟩ h.2))
theorem eqArr_ok {t : TypeId} {n : Nat} {el : TypeId} (ht : P.underlying t = some (.array n el)) (hg : P.eqGuardType P.depth t = false) {x y : AV} {u v : Value} {r : Bool} (h : eqArr P n el x y = some r) (hx : RV ρ x u) (hy : RV ρ y v) : EqOK P w t u v r := by
  obtain ⟨a, ha, h1⟩ := ob_some h
  obtain ⟨b, hb, h2⟩ := ob_some h1
  obtain ⟨hbt, h3⟩ := iteB_some h2
  obtain ⟨d, hd, h4⟩ := ob_some h3
  obtain ⟨s, hs, h5⟩ := ob_some h4
  obtain ⟨b1, h6⟩ := iteB_some h5
  obtain ⟨b2, h7⟩ := iteB_some h6
  rw [lenL_zero] at b2
  have b1 := beq_eq b1
  have b2 := beq_eq b2
  subst b1
  obtain ⟨us, rfl, hus, _⟩ := asAgg_rel ha hx
  obtain ⟨vs, rfl, hvs, _⟩ := asAgg_rel hb hy
  refine ⟨fun op xo yo => run_eqGuard_agg (P := P) w op t xo yo _ _ hg, ?_⟩
  have hl := eqRow_loop (P := P) (w := w) hd hbt hs n 0 a b us vs r h7 b2 (by simpa using hus) (by simpa using hvs) 9998
  unfold Op.equal Op.maxDepth Op.equalIn
  rw [Sem.run_bind, run_underlying ht w, Result.andThen_ok]
  simp only [Sem.run_bind, run_sizeOf' hs w, Result.andThen_ok]
  rw [Std.Legacy.Range.forIn_eq_forIn_range']
  have e1 : [:n].size = n := by simp [Std.Legacy.Range.size]
  rw [e1]
  rw [hl]
  cases r <;> rfl
theorem eqPtrs_ok {t el : TypeId} (ht : P.underlying t = some (.pointer el)) {x y : AV} {u v : Value} {r : Bool} (h : eqPtrs P el x y = some r) (hx : RV ρ x u) (hy : RV ρ y v) : EqOK P w t u v r := by
  have g : ∀ a b, u = .pointer a → v = .pointer b → ∀ op xo yo, (eqGuard op t xo yo u v).run P w = .ok () w := by
    intro a b ha hb op xo yo
    subst ha hb
    exact guard_plain ⟨by simp, by simp⟩
  cases x
  case nilp =>
    cases hx
    cases y
    case nilp =>
      have h' : some true = some r := h
      injection h' with h'; subst h'
      cases hy
      refine ⟨g _ _ rfl rfl, ?_⟩
      unfold Op.equal Op.maxDepth Op.equalIn
      rw [Sem.run_bind, run_underlying ht w]; rfl
    case ptr =>
      have h' : some false = some r := h
      injection h' with h'; subst h'
      cases hy
      refine ⟨g _ _ rfl rfl, ?_⟩
      unfold Op.equal Op.maxDepth Op.equalIn
      rw [Sem.run_bind, run_underlying ht w]; rfl
    all_goals cases h
  case ptr b i =>
    cases y
    case nilp =>
      have h' : some false = some r := h
      injection h' with h'; subst h'
      cases hx; cases hy
      refine ⟨g _ _ rfl rfl, ?_⟩
      unfold Op.equal Op.maxDepth Op.equalIn
      rw [Sem.run_bind, run_underlying ht w]; rfl
    case ptr c j =>
      obtain ⟨n, hn, h1⟩ := ob_some (x := size P el) h
      obtain ⟨h2, h3⟩ := iteB_none h1
      obtain ⟨h4, h5⟩ := iteB_some h3
      have h4 := beq_eq h4
      subst h4
      injection h5 with h5
      cases hx with
      | ptr hb =>
        cases hy with
        | ptr hb' =>
          rw [hb] at hb'
          injection hb' with hb'
          simp only [Prod.mk.injEq] at hb'
          obtain ⟨rfl, rfl, rfl⟩ := hb'
          refine ⟨g _ _ rfl rfl, ?_⟩
          unfold Op.equal Op.maxDepth Op.equalIn
          rw [Sem.run_bind, run_underlying ht w, Result.andThen_ok]
          simp only [Sem.run_bind, run_sizeOf' hn w, Result.andThen_ok]
          rw [if_pos (beq_ne h2)]
          unfold sameAddr
          rw [beq_dec] at h5
          subst h5
          simp only [beq_self_eq_true, if_true, Sem.run_pure]
          congr 1
          rw [Bool.eq_iff_iff]; simp
    all_goals cases h
  all_goals cases h
theorem eqSl_ok {t el : TypeId} (ht : P.underlying t = some (.slice el)) {x y : AV} {u v : Value} {r : Bool} (h : eqSl x y = some r) (hx : RV ρ x u) (hy : RV ρ y v) : EqOK P w t u v r := by
  cases x <;> first | (cases h; done) | skip
  all_goals (cases y <;> first | (cases h; done) | skip)
  all_goals
    (injection h with h; subst h; cases hx <;> cases hy <;>
      (refine ⟨fun op xo yo => guard_plain ⟨by simp, by simp⟩, ?_⟩
       unfold Op.equal Op.maxDepth Op.equalIn
       rw [Sem.run_bind, run_underlying ht w]; rfl))
theorem eqMp_ok {t k el : TypeId} (ht : P.underlying t = some (.map k el)) {x y : AV} {u v : Value} {r : Bool} (h : eqMp x y = some r) (hx : RV ρ x u) (hy : RV ρ y v) : EqOK P w t u v r := by
  cases x <;> first | (cases h; done) | skip
  all_goals (cases y <;> first | (cases h; done) | skip)
  all_goals
    (injection h with h; subst h; cases hx <;> cases hy <;>
      (refine ⟨fun op xo yo => guard_plain ⟨by simp, by simp⟩, ?_⟩
       unfold Op.equal Op.maxDepth Op.equalIn
       rw [Sem.run_bind, run_underlying ht w]; rfl))
theorem eqFn_ok {t : TypeId} {ps rs : Array TypeId} {vr : Bool} (ht : P.underlying t = some (.func ps rs vr)) {x y : AV} {u v : Value} {r : Bool} (h : eqFn x y = some r) (hx : RV ρ x u) (hy : RV ρ y v) : EqOK P w t u v r := by
  cases x <;> first | (cases h; done) | skip
  all_goals (cases y <;> first | (cases h; done) | skip)
  all_goals
    (injection h with h; subst h; cases hx <;> cases hy <;>
      (refine ⟨fun op xo yo => guard_plain ⟨by simp, by simp⟩, ?_⟩
       unfold Op.equal Op.maxDepth Op.equalIn
       rw [Sem.run_bind, run_underlying ht w]; rfl))
theorem ite_eq_of {α : Type} {c : Prop} [Decidable c] {x y z : α} (h : c → x = z) (h' : ¬ c → y = z) : (if c then x else y) = z := by
  split
  · exact h ‹_›
  · exact h' ‹_›
theorem eqIf_ok {t : TypeId} {ms : Array (String × TypeId)} (ht : P.underlying t = some (.interface ms)) {x y : AV} {u v : Value} {r : Bool} (h : eqIf P ms x y = some r) (hx : RV ρ x u) (hy : RV ρ y v) : EqOK P w t u v r := by
  cases x
  case nili =>
    cases hx
    cases y
    case nili =>
      obtain ⟨h1, h2⟩ := iteB_some (b := ms.isEmpty) h
      injection h2 with h2; subst h2
      cases hy
      refine ⟨fun op xo yo => ?_, ?_⟩
      · have e1 : (Op.eqGuardIn Op.maxDepth t .nilIface .nilIface).run P w = .ok false w := by
          unfold Op.maxDepth Op.eqGuardIn
          rw [Sem.run_bind, run_underlying ht w, Result.andThen_ok]
          simp [h1]
        cases op <;> first
          | rfl
          | (simp only [eqGuard, Bool.not_true, Bool.false_eq_true, if_false]
             rw [Sem.run_ite]
             refine ite_eq_of (fun _ => rfl) (fun _ => by rw [Sem.run_bind, e1]; rfl))
      · unfold Op.equal Op.maxDepth Op.equalIn
        rw [Sem.run_bind, run_underlying ht w]; rfl
    case iface =>
      have h' : some false = some r := h
      injection h' with h'; subst h'
      cases hy
      refine ⟨fun op xo yo => guard_plain ⟨by simp, by simp⟩, ?_⟩
      unfold Op.equal Op.maxDepth Op.equalIn
      rw [Sem.run_bind, run_underlying ht w]; rfl
    all_goals cases h
  case iface tx a =>
    cases y
    case nili =>
      have h' : some false = some r := h
      injection h' with h'; subst h'
      cases hx; cases hy
      refine ⟨fun op xo yo => guard_plain ⟨by simp, by simp⟩, ?_⟩
      unfold Op.equal Op.maxDepth Op.equalIn
      rw [Sem.run_bind, run_underlying ht w]; rfl
    case iface ty b =>
      cases hx with
      | iface ha =>
        cases hy with
        | iface hb =>
          refine ⟨fun op xo yo => guard_plain ⟨by simp, by simp⟩, ?_⟩
          unfold Op.equal Op.maxDepth Op.equalIn
          rw [Sem.run_bind, run_underlying ht w, Result.andThen_ok]
          have h0 : iteB (Nat.beq tx ty) (ob (P.info? tx) fun i => iteB i.comparable (eqCellT P tx a b) none) (some false) = some r := h
          cases hbq : Nat.beq tx ty with
          | false =>
            rw [hbq] at h0
            have h1 : some false = some r := h0
            injection h1 with h1; subst h1
            simp [beq_ne hbq]
          | true =>
            rw [hbq] at h0
            have e1 := beq_eq hbq
            subst e1
            obtain ⟨i, hi, h1⟩ := ob_some (x := P.info? tx) h0
            obtain ⟨hc, h2⟩ := iteB_some h1
            have := eqCellT_ok (P := P) (w := w) h2 ha hb 9998
            simp [run_typeInfo' hi w, hc, this]
    all_goals cases h
  all_goals cases h
theorem eqAgg_ok {t : TypeId} {x y : AV} {u v : Value} {r : Bool} (h : eqAgg P t x y = some r) (hx : RV ρ x u) (hy : RV ρ y v) : EqOK P w t u v r := by
  obtain ⟨a, ha, h1⟩ := ob_some h
  obtain ⟨b, hb, h2⟩ := ob_some h1
  obtain ⟨fs, hfs, h3⟩ := ob_some h2
  obtain ⟨fa, hd, rfl, hf, hs, hg⟩ := flatN_inv hfs
  obtain ⟨us, rfl, hus, _⟩ := asAgg_rel ha hx
  obtain ⟨vs, rfl, hvs, _⟩ := asAgg_rel hb hy
  refine ⟨fun op xo yo => run_eqGuard_agg (P := P) w op t xo yo _ _ hg, ?_⟩
  have hfo : P.fieldsOf t = fa := by unfold Program.fieldsOf; rw [hd]
  have := run_equalIn_struct (P := P) w 9999 t us.toArray vs.toArray (by rw [hfo]; exact hd) hs
  unfold Op.equal Op.maxDepth
  rw [this, hfo]
  exact eqFs_ok fa.toList 0 a b us vs r hf h3 (by simpa using hus) (by simpa using hvs) 9998
theorem eqBy_ok {t : TypeId} {d : TypeDesc} (ht : P.underlying t = some d) {x y : AV} {u v : Value} {r : Bool} (h : eqBy P t d x y = some r) (hx : RV ρ x u) (hy : RV ρ y v) : EqOK P w t u v r := by
  cases d with
  | bool =>
    refine ⟨fun op xo yo => ?_, (eqCellD_ok (P := P) (w := w) (d := .bool) h hx hy).1 t 9999 ht⟩
    obtain ⟨a, ha, h1⟩ := ob_some (x := x.asBool) h
    obtain ⟨b, hb, h2⟩ := ob_some h1
    rw [asBool_rel ha hx, asBool_rel hb hy]
    exact guard_plain ⟨by simp, by simp⟩
  | pointer el => exact eqPtrs_ok ht h hx hy
  | slice el => exact eqSl_ok ht h hx hy
  | map k el => exact eqMp_ok ht h hx hy
  | func ps rs vr => exact eqFn_ok ht h hx hy
  | interface ms => exact eqIf_ok ht h hx hy
  | struct fs => exact eqAgg_ok h hx hy
  | array n el => obtain ⟨hg, h1⟩ := iteB_none (b := P.eqGuardType P.depth t) h; exact eqArr_ok ht hg h1 hx hy
  | _ => cases h
/-! ### All of them -/
theorem wrap_nat {k : IntKind} {n : Nat} (h : bitsA.smallK k n n = true) (hn : n < 2 ^ 63) : k.wrap (n : Int) = n := by
  have hb : n < 9223372036854775808 := by simpa using hn
  cases k <;> first
    | exact IntWalk.i64_in _ ⟨by omega, by omega⟩
    | exact IntWalk.u64_in _ ⟨by omega, by omega⟩
    | (have h' : iteB (Nat.blt n 256) (Nat.blt n 256) false = true := h
       cases hb : Nat.blt n 256 with
       | true => have := blt_lt hb; exact IntWalk.u8_in _ ⟨by omega, by omega⟩
       | false => rw [hb] at h'; cases h')
    | cases h
theorem small_bits {k : IntKind} {m n : Nat} (h : bitsA.smallK k m n = true) (hm : m < 2 ^ 63) (hn : n < 2 ^ 63) : m < 2 ^ k.bits ∧ n < 2 ^ k.bits ∧ ∀ r, r < 2 ^ 63 → (k = .u8 → r < 256) → bitsA.smallK k r r = true := by
  have hb : m < 9223372036854775808 := by simpa using hm
  have hb' : n < 9223372036854775808 := by simpa using hn
  cases k with
  | i64 => exact ⟨by simp [IntKind.bits]; omega, by simp [IntKind.bits]; omega, fun _ _ _ => rfl⟩
  | u64 => exact ⟨by simp [IntKind.bits]; omega, by simp [IntKind.bits]; omega, fun _ _ _ => rfl⟩
  | u8 =>
    have h' : iteB (Nat.blt m 256) (Nat.blt n 256) false = true := h
    cases h1 : Nat.blt m 256 with
    | true =>
      rw [h1] at h'
      have h2 : Nat.blt n 256 = true := h'
      refine ⟨by have := blt_lt h1; simp [IntKind.bits]; omega, by have := blt_lt h2; simp [IntKind.bits]; omega, fun r _ hr => ?_⟩
      have h3 : Nat.blt r 256 = true := Nat.ble_eq_true_of_le (hr rfl)
      show iteB (Nat.blt r 256) (Nat.blt r 256) false = true
      rw [h3]; rfl
    | false => rw [h1] at h'; cases h'
  | _ => cases h
theorem bits_nat {k : IntKind} {m n : Nat} {op : BinOp} {v : AV} (h : bitsN op k m n = some v) (hm : m < 2 ^ 63) (hn : n < 2 ^ 63) (hs : bitsA.smallK k m n = true) :
    ∃ z, v = .int k z ∧ (Op.intBits op k (m : Int) (n : Int)).run P w = .ok (.int k z) w := by
  obtain ⟨h1, h2, h3⟩ := small_bits hs hm hn
  have key : ∀ r : Nat, r < 2 ^ 63 → r < 2 ^ k.bits → k.wrap (r : Int) = r := fun r hr hr' => wrap_nat (h3 r hr (fun e => by subst e; simpa [IntKind.bits] using hr')) hr
  have em : (BitVec.ofInt k.bits (m : Int)).toNat = m := by simp [Nat.mod_eq_of_lt h1]
  have en : (BitVec.ofInt k.bits (n : Int)).toNat = n := by simp [Nat.mod_eq_of_lt h2]
  cases op with
  | and =>
    injection h with h; subst h
    refine ⟨_, rfl, ?_⟩
    have : (m &&& n) < 2 ^ 63 := Nat.and_lt_two_pow m hn
    have h' : (m &&& n) < 2 ^ k.bits := Nat.and_lt_two_pow m h2
    simp [Op.intBits]
    rw [Nat.mod_eq_of_lt h1, Nat.mod_eq_of_lt h2]
    exact key _ this h'
  | or =>
    injection h with h; subst h
    refine ⟨_, rfl, ?_⟩
    have : (m ||| n) < 2 ^ 63 := Nat.or_lt_two_pow hm hn
    have h' : (m ||| n) < 2 ^ k.bits := Nat.or_lt_two_pow h1 h2
    simp [Op.intBits]
    rw [Nat.mod_eq_of_lt h1, Nat.mod_eq_of_lt h2]
    exact key _ this h'
  | xor =>
    injection h with h; subst h
    refine ⟨_, rfl, ?_⟩
    have : (m ^^^ n) < 2 ^ 63 := Nat.xor_lt_two_pow hm hn
    have h' : (m ^^^ n) < 2 ^ k.bits := Nat.xor_lt_two_pow h1 h2
    simp [Op.intBits]
    rw [Nat.mod_eq_of_lt h1, Nat.mod_eq_of_lt h2]
    exact key _ this h'
  | _ => cases h
theorem bitsZ_ok {k : IntKind} {a b : Int} {op : BinOp} {v : AV} (h : bitsZ op k a b = some v) : ∃ z, v = .int k z ∧ (Op.intBits op k a b).run P w = .ok (.int k z) w := by
  cases op <;> first
    | (have := mkInt_eq h; subst this; exact ⟨_, rfl, rfl⟩)
    | cases h
theorem bitsA_ok {k : IntKind} {a b : Int} {op : BinOp} {v : AV} (h : bitsA op k a b = some v) : ∃ z, v = .int k z ∧ (Op.intBits op k a b).run P w = .ok (.int k z) w := by
  cases a with
  | negSucc m => exact bitsZ_ok (by cases b <;> exact h)
  | ofNat m =>
    cases b with
    | negSucc n => exact bitsZ_ok h
    | ofNat n =>
      by_cases ho : op = .andNot
      · subst ho; exact bitsZ_ok h
      · have h' : iteB (Nat.blt m 9223372036854775808) (iteB (Nat.blt n 9223372036854775808) (iteB (bitsA.smallK k m n) (bitsN op k m n) (bitsZ op k (.ofNat m) (.ofNat n))) (bitsZ op k (.ofNat m) (.ofNat n))) (bitsZ op k (.ofNat m) (.ofNat n)) = some v := by
          cases op <;> first | exact h | exact absurd rfl ho
        cases h1 : Nat.blt m 9223372036854775808 with
        | false => rw [h1] at h'; exact bitsZ_ok h'
        | true =>
          rw [h1, iteB_true] at h'
          cases h2 : Nat.blt n 9223372036854775808 with
          | false => rw [h2] at h'; exact bitsZ_ok h'
          | true =>
            rw [h2, iteB_true] at h'
            cases h3 : bitsA.smallK k m n with
            | false => rw [h3] at h'; exact bitsZ_ok h'
            | true =>
              rw [h3, iteB_true] at h'
              exact bits_nat h' (by have := blt_lt h1; simpa using this) (by have := blt_lt h2; simpa using this) h3
theorem intOp_ok {op : BinOp} {k : IntKind} {a b : Int} {v : AV} (h : intOp op k a b = some v) {t : TypeId} (hs : op ≠ .shl ∧ op ≠ .shr) :
    ∃ u, (binOp op t (.int k a) (.int k b)).run P w = .ok u w ∧ RV ρ v u := by
  cases op
  case add => have := mkInt_eq h; subst this; rw [wrapK_eq]; exact ⟨.int k (k.wrap (a + b)), by simp [binOp, Op.intArith], .int _ _⟩
  case sub => have := mkInt_eq h; subst this; rw [wrapK_eq]; exact ⟨.int k (k.wrap (a - b)), by simp [binOp, Op.intArith], .int _ _⟩
  case mul => have := mkInt_eq h; subst this; rw [wrapK_eq]; exact ⟨.int k (k.wrap (a * b)), by simp [binOp, Op.intArith], .int _ _⟩
  case quo =>
    obtain ⟨h1, h2⟩ := iteB_none h
    have := mkInt_eq h2; subst this
    rw [wrapK_eq]
    rw [intEq_iff] at h1
    have hb : b ≠ 0 := by simpa using h1
    exact ⟨.int k (k.wrap (a.tdiv b)), by simp [binOp, Op.intDiv, hb], .int _ _⟩
  case rem =>
    obtain ⟨h1, h2⟩ := iteB_none h
    have := mkInt_eq h2; subst this
    rw [intEq_iff] at h1
    have hb : b ≠ 0 := by simpa using h1
    exact ⟨.int k (a.tmod b), by simp [binOp, Op.intDiv, hb], .int _ _⟩
  case and => obtain ⟨z, hv, hz⟩ := bitsA_ok (P := P) (w := w) (op := .and) (k := k) (a := a) (b := b) h; subst hv; exact ⟨_, by simpa [binOp] using hz, .int _ _⟩
  case or => obtain ⟨z, hv, hz⟩ := bitsA_ok (P := P) (w := w) (op := .or) (k := k) (a := a) (b := b) h; subst hv; exact ⟨_, by simpa [binOp] using hz, .int _ _⟩
  case xor => obtain ⟨z, hv, hz⟩ := bitsA_ok (P := P) (w := w) (op := .xor) (k := k) (a := a) (b := b) h; subst hv; exact ⟨_, by simpa [binOp] using hz, .int _ _⟩
  case andNot => obtain ⟨z, hv, hz⟩ := bitsA_ok (P := P) (w := w) (op := .andNot) (k := k) (a := a) (b := b) h; subst hv; exact ⟨_, by simpa [binOp] using hz, .int _ _⟩
  case shl => exact absurd rfl hs.1
  case shr => exact absurd rfl hs.2
  case eql => injection h with h; subst h; refine ⟨.bool (a == b), by simp [binOp, Op.intCmp], ?_⟩; rw [intEq_iff, show decide (a = b) = (a == b) from by rw [Bool.eq_iff_iff]; simp]; exact .bool _
  case neq => injection h with h; subst h; refine ⟨.bool (a != b), by simp [binOp, Op.intCmp], ?_⟩; rw [intEq_iff, show (!decide (a = b)) = (a != b) from by rw [Bool.eq_iff_iff]; simp]; exact .bool _
  case lss => injection h with h; subst h; refine ⟨.bool (decide (a < b)), by simp [binOp, Op.intCmp], ?_⟩; rw [intLt_iff]; exact .bool _
  case leq => injection h with h; subst h; refine ⟨.bool (decide (a ≤ b)), by simp [binOp, Op.intCmp], ?_⟩; rw [intLt_iff, show (!decide (b < a)) = decide (a ≤ b) from by rw [Bool.eq_iff_iff]; simp]; exact .bool _
  case gtr => injection h with h; subst h; refine ⟨.bool (decide (a > b)), by simp [binOp, Op.intCmp], ?_⟩; rw [intLt_iff]; exact .bool _
  case geq => injection h with h; subst h; refine ⟨.bool (decide (a ≥ b)), by simp [binOp, Op.intCmp], ?_⟩; rw [intLt_iff, show (!decide (a < b)) = decide (a ≥ b) from by rw [Bool.eq_iff_iff]; simp]; exact .bool _
theorem int_ok {op : BinOp} {k k' : IntKind} {a b : Int} {v : AV} (h : shiftOr op k a k' b = some v) {t : TypeId} :
    ∃ u, (binOp op t (.int k a) (.int k' b)).run P w = .ok u w ∧ RV ρ v u := by
  by_cases h1 : op = .shl
  · subst h1
    obtain ⟨y, hy, h2⟩ := ob_some (x := intNat b) h
    have := mkInt_eq h2; subst this
    rw [intNat_inv hy, wrapK_eq]
    refine ⟨.int k (k.wrap (a * 2 ^ min y k.bits)), ?_, ?_⟩
    · have : ¬ ((y : Int) < 0) := by omega
      simp [binOp, Op.shift, this]
    · have : Int.mul a (.ofNat (Nat.pow 2 (Nat.min y k.bits))) = a * 2 ^ min y k.bits := by
        show a * ((2 ^ min y k.bits : Nat) : Int) = _
        rw [Int.natCast_pow]; rfl
      rw [this]; exact .int _ _
  · by_cases h1' : op = .shr
    · subst h1'
      obtain ⟨y, hy, h2⟩ := ob_some (x := intNat b) h
      have := mkInt_eq h2; subst this
      rw [intNat_inv hy]
      refine ⟨.int k (a.fdiv (2 ^ min y k.bits)), ?_, ?_⟩
      · have : ¬ ((y : Int) < 0) := by omega
        simp [binOp, Op.shift, this]
      · have : (Int.ofNat (Nat.pow 2 (Nat.min y k.bits))) = (2 : Int) ^ min y k.bits := by
          show ((2 ^ min y k.bits : Nat) : Int) = _
          rw [Int.natCast_pow]; rfl
        rw [this]; exact .int _ _
    · have h2 : iteB (kEq k k') (intOp op k a b) none = some v := by cases op <;> first | exact h | exact absurd rfl h1 | exact absurd rfl h1'
      obtain ⟨hk, h3⟩ := iteB_some h2
      have := kEq_eq hk
      subst this
      exact intOp_ok h3 ⟨h1, h1'⟩
theorem not_less : ∀ x y : List UInt8, (!Op.bytesLess y x) = (Op.bytesLess x y || x == y) := by
  intro x
  induction x with
  | nil => intro y; cases y <;> rfl
  | cons p x ih =>
    intro y
    cases y with
    | nil => rfl
    | cons q y =>
      show (!(decide (q < p) || (q == p && Op.bytesLess y x))) = ((decide (p < q) || (p == q && Op.bytesLess x y)) || (p :: x == q :: y))
      have h1 : (p < q) ↔ (p.toNat < q.toNat) := UInt8.lt_iff_toNat_lt
      have h2 : (q < p) ↔ (q.toNat < p.toNat) := UInt8.lt_iff_toNat_lt
      have h3 : (p == q) = decide (p.toNat = q.toNat) := by rw [Bool.eq_iff_iff]; simp [UInt8.toNat_inj]
      have h4 : (q == p) = decide (q.toNat = p.toNat) := by rw [Bool.eq_iff_iff]; simp [UInt8.toNat_inj]
      have h5 : (p :: x == q :: y) = ((p == q) && (x == y)) := rfl
      rw [h5, h3, h4]
      simp only [h1, h2]
      have := ih y
      rcases Nat.lt_trichotomy p.toNat q.toNat with hl | hl | hl
      · have a1 : ¬ q.toNat < p.toNat := by omega
        have a2 : q.toNat ≠ p.toNat := by omega
        simp [hl, a1, a2]
      · simp only [hl, Nat.lt_irrefl, decide_false, decide_true, Bool.false_or, Bool.true_and]
        exact this
      · have a1 : ¬ p.toNat < q.toNat := by omega
        have a2 : p.toNat ≠ q.toNat := by omega
        simp [hl, a1, a2]
theorem natsOf_append (a b : ByteArray) : natsOf a.data.toList ++ natsOf b.data.toList = natsOf (a ++ b).data.toList := by simp [natsOf]
theorem str_ok {op : BinOp} {a b : ByteArray} {v : AV} (h : strOp op (natsOf a.data.toList) (natsOf b.data.toList) = some v) {t : TypeId} :
    ∃ u, (binOp op t (.string a) (.string b)).run P w = .ok u w ∧ RV ρ v u := by
  cases op
  case add =>
    obtain ⟨h1, h2⟩ := iteB_some h
    obtain ⟨r, hr, h3⟩ := ob_some h2
    injection h3 with h3; subst h3
    have hr := app_some _ _ _ hr
    rw [natsOf_append] at hr
    subst hr
    have h1 := ble_le h1
    rw [lenL_eq, lenL_zero, natsOf_size, natsOf_size] at h1
    refine ⟨.string (a ++ b), ?_, .str _⟩
    have : ¬ (((a.size + b.size : Nat) : Int) > IntKind.i64.max) := by
      have e1 : IntKind.i64.max = 9223372036854775807 := by decide
      rw [e1]; omega
    show (Op.stringOp .add a b).run P w = _
    unfold Op.stringOp
    simp only [this, if_false]; rfl
  case eql => injection h with h; subst h; rw [strEq_bytes]; exact ⟨_, rfl, .bool _⟩
  case neq => injection h with h; subst h; rw [strEq_bytes]; exact ⟨_, rfl, .bool _⟩
  case lss => injection h with h; subst h; rw [strLt_eq, ← toList_data, ← toList_data]; exact ⟨_, rfl, .bool _⟩
  case geq => injection h with h; subst h; rw [strLt_eq, ← toList_data, ← toList_data]; exact ⟨_, rfl, .bool _⟩
  case leq =>
    injection h with h; subst h
    rw [strLt_eq]
    refine ⟨.bool (Op.bytesLess a.toList b.toList || a.toList == b.toList), rfl, ?_⟩
    rw [toList_data, toList_data, ← not_less]; exact .bool _
  case gtr =>
    injection h with h; subst h
    rw [strLt_eq]
    refine ⟨.bool (!(Op.bytesLess a.toList b.toList || a.toList == b.toList)), rfl, ?_⟩
    rw [toList_data, toList_data, ← not_less, Bool.not_not]; exact .bool _
  all_goals cases h
theorem eqBin_ok {op : BinOp} {t : TypeId} {u v : Value} {r : AV} {b : Option Bool} {xo yo : Operand} (h : eqBin op b = some r) (hb : ∀ q, b = some q → EqOK P w t u v q)
    (hbin : ∀ o, o = .eql ∨ o = .neq → binOp o t u v = (if o = .eql then (do pure (.bool (← Op.equal t u v))) else do pure (.bool (!(← Op.equal t u v))))) :
    ∃ z, (do eqGuard op t xo yo u v; binOp op t u v : Sem Value).run P w = .ok z w ∧ RV ρ r z := by
  cases op
  case eql =>
    obtain ⟨q, hq, h1⟩ := ob_some (x := b) h
    injection h1 with h1; subst h1
    obtain ⟨h2, h3⟩ := hb q hq
    refine ⟨.bool q, ?_, .bool _⟩
    rw [Sem.run_bind, h2, Result.andThen_ok, hbin _ (.inl rfl), if_pos rfl, Sem.run_bind, h3]; rfl
  case neq =>
    obtain ⟨q, hq, h1⟩ := ob_some (x := b) h
    injection h1 with h1; subst h1
    obtain ⟨h2, h3⟩ := hb q hq
    refine ⟨.bool (!q), ?_, .bool _⟩
    rw [Sem.run_bind, h2, Result.andThen_ok, hbin _ (.inr rfl), if_neg (by simp), Sem.run_bind, h3]; rfl
  all_goals cases h
theorem binA_ok {op : BinOp} {t : TypeId} {x y : AV} {u v : Value} {r : AV} {xo yo : Operand} (h : binA P op t x y = some r) (hx : RV ρ x u) (hy : RV ρ y v) :
    ∃ z, (do eqGuard op t xo yo u v; binOp op t u v : Sem Value).run P w = .ok z w ∧ RV ρ r z := by
  by_cases hi : ∃ k a, x = .int k a
  · obtain ⟨k, a, rfl⟩ := hi
    obtain ⟨q, hq, h1⟩ := ob_some (x := y.asInt) h
    cases hx
    rw [(asInt_rel hq hy).2]
    obtain ⟨z, hz, hr⟩ := int_ok (P := P) (w := w) (ρ := ρ) (t := t) h1
    exact ⟨z, by rw [Sem.run_bind, guard_plain ⟨by simp, by simp⟩, Result.andThen_ok, hz], hr⟩
  · by_cases hs : ∃ s, x = .str s
    · obtain ⟨s, rfl⟩ := hs
      obtain ⟨q, hq, h1⟩ := ob_some (x := y.asStr) h
      cases hx with
      | str a =>
        obtain ⟨b, rfl, rfl⟩ := asStr_rel hq hy
        obtain ⟨z, hz, hr⟩ := str_ok (P := P) (w := w) (ρ := ρ) (t := t) h1
        exact ⟨z, by rw [Sem.run_bind, guard_plain ⟨by simp, by simp⟩, Result.andThen_ok, hz], hr⟩
    · have h' : eqBin op (eqOther P t x y) = some r := by
        cases x <;> first | exact h | exact absurd ⟨_, _, rfl⟩ hi | exact absurd ⟨_, rfl⟩ hs
      refine eqBin_ok h' (fun q hq => ?_) ?_
      · obtain ⟨d, hd, h2⟩ := ob_some hq
        exact eqBy_ok hd h2 hx hy
      · intro o ho
        have hany : eqOther P t .any y = none := by
          unfold eqOther
          cases P.underlying t with
          | none => rfl
          | some d => cases d <;> first | rfl | (show iteB _ none none = none; cases P.eqGuardType P.depth t <;> rfl)
        cases x
        case any => rw [hany] at h'; cases op <;> cases h'
        case int => exact absurd ⟨_, _, rfl⟩ hi
        case str => exact absurd ⟨_, rfl⟩ hs
        all_goals (clear h h' hany hy; cases hx <;> rcases ho with rfl | rfl <;> cases v <;> rfl)
theorem bin_ok (he : EnvR ρ e σ) {op : BinOp} {t : TypeId} {x y : Operand} {r : OR} (h : opBin P e H op t x y = some r) :
    QOK P ρ H w (do pure (.value (← (do eqGuard op t x y (σ x) (σ y); binOp op t (σ x) (σ y))))) r := by
  obtain ⟨a, ha, h1⟩ := ob_some h
  obtain ⟨b, hb, h2⟩ := ob_some h1
  obtain ⟨v, hv, h3⟩ := ob_some h2
  obtain ⟨z, hz, hr⟩ := binA_ok (P := P) (w := w) (xo := x) (yo := y) hv (he _ _ ha) (he _ _ hb)
  exact qok_of h3 hz hr
end Go.Vex
namespace Go.Vex
variable {P : Program} {ρ : Rho} {H : Hp} {w : World} {e : Env} {σ : Operand → Value}
/-! ### Operations that make memory -/
/-- A new block of cells. -/
theorem newRow_ok (h : Rep ρ H w) {o : AO} {cs : List AV} (ho : Content o cs) {us : List Value} (hv : All2 (RV ρ) cs us) (hs : ∀ u ∈ us, Scalar u) {H' : Hp} (ha : H.alloc o = some H') (el : TypeId) (rest : List Value) :
    ∃ ρ' w', (newRow el (us ++ rest).toArray).run P w = .ok ⟨w.heap.size, 0, none⟩ w' ∧ Rep ρ' H' w' ∧ Ext ρ H w ρ' H' w' ∧ ρ' H.next = some (w.heap.size, 0, us.length + rest.length) := by
  have hnone := h.nxt H.next (Nat.le_refl _)
  have hsub : ρ.sub (ρ.put H.next (w.heap.size, 0, us.length + rest.length)) := Rho.sub_put hnone
  obtain ⟨h1, h2⟩ := content_ro (ρ := ρ.put H.next (w.heap.size, 0, us.length + rest.length)) ho (RVs.mono hsub hv) hs rest el
  obtain ⟨h3, h4⟩ := h.alloc ha h1 h2
  exact ⟨_, _, rfl, h3, h4, by simp [Rho.put]⟩
theorem newRow_ok' (h : Rep ρ H w) {o : AO} {cs : List AV} (ho : Content o cs) {us : List Value} (hv : All2 (RV ρ) cs us) (hs : ∀ u ∈ us, Scalar u) {H' : Hp} (ha : H.alloc o = some H') (el : TypeId) :
    ∃ ρ' w', (newRow el us.toArray).run P w = .ok ⟨w.heap.size, 0, none⟩ w' ∧ Rep ρ' H' w' ∧ Ext ρ H w ρ' H' w' ∧ ρ' H.next = some (w.heap.size, 0, us.length) := by
  have := newRow_ok (P := P) h ho hv hs ha el []
  simpa using this
theorem allocV_inv {o : AO} {v : AV} {r : OR} (h : allocV H o v = some r) : ∃ H', H.alloc o = some H' ∧ r = .val v H' := by
  obtain ⟨H', h1, h2⟩ := ob_some h
  injection h2 with h2
  exact ⟨H', h1, h2.symm⟩
theorem alloc_ok (h : Rep ρ H w) {el : TypeId} {r : OR} (hh : opAlloc P H el = some r) : OpOK P ρ H w (do pure (.value (← Instr.alloc el true (.tuple #[])))) r := by
  obtain ⟨o, ho, h1⟩ := ob_some hh
  obtain ⟨H', ha, rfl⟩ := allocV_inv h1
  obtain ⟨cs, hcs, ho⟩ := ob_some ho
  obtain ⟨z, us, hz, hc, hall, hsc⟩ := zeroCells_inv hcs
  obtain ⟨ρ', w', hrun, hrep, hext, hr⟩ := newRow_ok' (P := P) h (ofList_content ho) (hall ρ) hsc ha el
  refine ⟨ρ', w', .pointer (some ⟨w.heap.size, 0 + 0, none⟩), ?_, hrep, hext, .ptr hr⟩
  unfold Instr.alloc
  simp only [Sem.run_bind, hz w, Result.andThen_ok, newVar, hc]
  rw [hrun]; rfl
theorem box_ok (h : Rep ρ H w) (he : EnvR ρ e σ) {el : TypeId} {x : Operand} {r : OR} (hh : opBox e H x = some r) : OpOK P ρ H w (do pure (.value (← Instr.box el (σ x)))) r := by
  obtain ⟨v, hv, h1⟩ := ob_some hh
  obtain ⟨cs, hcs, h2⟩ := ob_some h1
  obtain ⟨o, ho, h3⟩ := ob_some h2
  obtain ⟨H', ha, rfl⟩ := allocV_inv h3
  obtain ⟨us, hc, hall, hsc⟩ := cells_rel hcs (he _ _ hv)
  obtain ⟨ρ', w', hrun, hrep, hext, hr⟩ := newRow_ok' (P := P) h (ofList_content ho) hall hsc ha el
  refine ⟨ρ', w', .pointer (some ⟨w.heap.size, 0 + 0, none⟩), ?_, hrep, hext, .ptr hr⟩
  unfold Instr.box
  simp only [newVar, hc, Sem.run_bind, hrun]; rfl
theorem rowOf_some : ∀ (n : Nat) (z r : List AV), rowOf z n = some r → r = (List.replicate n z).flatten := by
  intro n
  induction n with
  | zero => intro z r h; have h' : some [] = some r := h; injection h' with h'; subst h'; rfl
  | succ n ih =>
    intro z r h
    obtain ⟨k, hk, h1⟩ := ob_some (x := rowOf z n) (f := fun r => app z r) h
    have := ih z k hk
    subst this
    have := app_some _ _ _ h1
    subst this
    simp [List.replicate_succ]
theorem flat_get {α : Type} (zs : List α) (hz : zs ≠ []) : ∀ (n i : Nat), i < n * zs.length → ((List.replicate n zs).flatten)[i]? = zs[i % zs.length]? := by
  intro n
  induction n with
  | zero => intro i hi; simp at hi
  | succ n ih =>
    intro i hi
    have hl : 0 < zs.length := List.length_pos_iff.2 hz
    rw [List.replicate_succ, List.flatten_cons]
    by_cases h : i < zs.length
    · rw [List.getElem?_append_left h, Nat.mod_eq_of_lt h]
    · have h' : zs.length ≤ i := by omega
      rw [List.getElem?_append_right h', ih _ (by rw [Nat.succ_mul] at hi; omega)]
      rw [Nat.mod_eq_sub_mod h']
theorem range_row (n : Nat) (us : List Value) (hus : n * us.length = 0 ∨ us ≠ []) : ((Array.range (n * us.length)).map fun i => us.toArray[i % us.toArray.size]!) = ((List.replicate n us).flatten).toArray := by
  apply Array.ext_getElem?
  intro i
  simp only [Array.getElem?_map, List.getElem?_toArray]
  by_cases h : i < n * us.length
  · have hne : us ≠ [] := by rcases hus with h' | h'; omega; exact h'
    have hl : 0 < us.length := List.length_pos_iff.2 hne
    have hm : i % us.length < us.length := Nat.mod_lt _ hl
    rw [flat_get us hne n i h]
    simp [h, hm]
  · have e1 : (Array.range (n * us.length))[i]? = none := by simp; omega
    rw [e1]
    have : ((List.replicate n us).flatten).length = n * us.length := by simp
    rw [List.getElem?_eq_none (by omega)]; rfl
theorem replicate_rel {z : List AV} {us : List Value} (h : All2 (RV ρ) z us) : ∀ n, All2 (RV ρ) (List.replicate n z).flatten (List.replicate n us).flatten := by
  intro n
  induction n with
  | zero => exact .nil
  | succ n ih => rw [List.replicate_succ, List.replicate_succ, List.flatten_cons, List.flatten_cons]; exact h.append ih
theorem replicate_scalar {us : List Value} (h : ∀ u ∈ us, Scalar u) (n : Nat) : ∀ u ∈ (List.replicate n us).flatten, Scalar u := by
  intro u hu
  obtain ⟨l, hl, hul⟩ := List.mem_flatten.1 hu
  rw [List.eq_of_mem_replicate hl] at hul
  exact h u hul
theorem buildSlice_ok (h : Rep ρ H w) (he : EnvR ρ e σ) {t : TypeId} {len : Nat} {ps : Array (Nat × Operand)} {r : OR} (hh : opBuildSlice P e H t len ps.toList = some r) :
    OpOK P ρ H w (do pure (.value (← Instr.buildSlice t len (ps.map fun (x : Nat × Operand) => (x.1, σ x.2))))) r := by
  obtain ⟨el, hel, h1⟩ := ob_some hh
  obtain ⟨s, hs, h2⟩ := ob_some h1
  obtain ⟨z, hz, h2'⟩ := ob_some h2
  obtain ⟨hzl, h3⟩ := iteB_some h2'
  obtain ⟨row, hrow, h4⟩ := ob_some h3
  obtain ⟨cs, hcs, h5⟩ := ob_some h4
  obtain ⟨o, ho, h6⟩ := ob_some h5
  obtain ⟨hb, h7⟩ := iteB_some h6
  obtain ⟨H', ha, rfl⟩ := allocV_inv h7
  have hd := elemOf_inv hel
  have hb : len * s ≤ 65536 := ble_le hb
  obtain ⟨zv, us, hzv, hzc, hall, hsc⟩ := zeroCells_inv hz
  have hzl := beq_eq hzl
  rw [lenL_zero, (hall ρ).length] at hzl
  subst hzl
  have hrow := rowOf_some _ _ _ hrow
  subst hrow
  obtain ⟨us', hf, h8, h9⟩ := fill_ok he (fun i => some (i * us.length, us.length)) (arrPlace us.length) (fun i q hq => hq) ps.toList _ cs _ hcs (replicate_rel (hall ρ) len) (replicate_scalar hsc len)
  obtain ⟨ρ', w', hrun, hrep, hext, hr⟩ := newRow_ok' (P := P) h (ofList_content ho) h8 h9 ha el
  refine ⟨ρ', w', .slice (some ⟨w.heap.size, 0 + 0, none⟩) len len, ?_, hrep, hext, .sfix hr (Nat.le_refl _)⟩
  unfold Instr.buildSlice
  have hlt : ¬ (len * us.length > 2 ^ 24) := by simp; omega
  simp only [Sem.run_bind, run_underlying hd w, run_sizeOf' hs w, Result.andThen_ok, hlt, if_false]
  by_cases h0 : len * us.length = 0
  · have e1 : ((List.replicate len us).flatten) = [] := by
      have : ((List.replicate len us).flatten).length = 0 := by simpa using h0
      exact List.length_eq_zero_iff.1 this
    rw [e1] at hf
    have e2 : ((Array.range (len * us.length)).map fun i => (#[] : Array Value)[i % (#[] : Array Value).size]!) = #[] := by rw [h0]; simp
    simp only [h0, if_true, Sem.run_pure, Result.andThen_ok, Sem.run_bind]
    rw [h0] at e2
    rw [parts_list, e2, hf]
    simp only [Sem.run_bind, hrun, Result.andThen_ok, Sem.run_pure]
  · have hne : us ≠ [] := by intro e; subst e; simp at h0
    simp only [h0, if_false, Sem.run_bind, hzv w, Result.andThen_ok, Sem.run_pure]
    have := range_row len us (.inr hne)
    rw [hzc, this, parts_list, hf]
    simp only [Sem.run_bind, hrun, Result.andThen_ok, Sem.run_pure]
theorem makeSlice_ok (h : Rep ρ H w) (he : EnvR ρ e σ) {t : TypeId} {l c : Operand} {r : OR} (hh : opMakeSlice P e H t l c = some r) :
    OpOK P ρ H w (do pure (.value (← Instr.makeSlice t (σ l) (σ c)))) r := by
  obtain ⟨el, hel, h1⟩ := ob_some hh
  obtain ⟨inf, hinf, h2⟩ := ob_some h1
  obtain ⟨z, hz, h3⟩ := ob_some h2
  obtain ⟨hzl, h4⟩ := iteB_some h3
  obtain ⟨vl, hvl, h5⟩ := ob_some h4
  obtain ⟨nl, hnl, h6⟩ := ob_some h5
  obtain ⟨vc, hvc, h7⟩ := ob_some h6
  obtain ⟨nc, hnc, h8⟩ := ob_some h7
  obtain ⟨b1, h9⟩ := iteB_some h8
  obtain ⟨b2, h10⟩ := iteB_some h9
  obtain ⟨b3, h11⟩ := iteB_some h10
  clear hh h1 h2 h3 h4 h5 h6 h7 h8 h9 h10
  have b1 := ble_le b1
  have b2 := ble_le b2
  have b3 := ble_le b3
  obtain ⟨kl, el1⟩ := asNat_rel hnl (he _ _ hvl)
  obtain ⟨kc, ec1⟩ := asNat_rel hnc (he _ _ hvc)
  have hd := elemOf_inv hel
  obtain ⟨zv, us, hzv, hzc, hall, hsc⟩ := zeroCells_inv hz
  have hzl := beq_eq hzl
  rw [lenL_zero, (hall ρ).length] at hzl
  have hsz : size P el = some us.length := by simp [size, hinf, hzl]
  -- the row that the model makes
  have hmodel : ∀ w1, (newRow el ((List.replicate nc us).flatten).toArray).run P w = .ok ⟨w.heap.size, 0, none⟩ w1 →
      (Instr.makeSlice t (σ l) (σ c)).run P w = .ok (.slice (some ⟨w.heap.size, 0, none⟩) nl nc) w1 := by
    intro w1 hrun
    unfold Instr.makeSlice
    rw [el1, ec1]
    have e1 : IntKind.i64.wrap (nl : Int) = nl := IntWalk.i64_in _ ⟨by omega, by omega⟩
    have e2 : IntKind.i64.wrap (nc : Int) = nc := IntWalk.i64_in _ ⟨by omega, by omega⟩
    have hby : (inf.bytes : Int) * nc ≤ 65536 * 1048576 := by
      have : inf.bytes * nc ≤ 65536 * 1048576 := Nat.mul_le_mul b3 b2
      have h' : ((inf.bytes * nc : Nat) : Int) ≤ ((65536 * 1048576 : Nat) : Int) := by exact_mod_cast this
      simpa using h'
    simp only [Sem.run_bind, run_underlying hd w, Result.andThen_ok, asInt, asIntOf, Sem.run_pure, run_typeInfo' hinf w, e1, e2]
    have hcond : ((decide ((nc : Int) < 0) || decide ((inf.bytes : Int) * nc > 2 ^ 48)) || decide ((nl : Int) < 0) || decide ((nl : Int) > nc)) = false := by
      have a1 : ¬ ((nc : Int) < 0) := by omega
      have a2 : ¬ ((inf.bytes : Int) * nc > 2 ^ 48) := by
        have : (65536 * 1048576 : Int) ≤ 2 ^ 48 := by decide
        omega
      have a3 : ¬ ((nl : Int) < 0) := by omega
      have a4 : ¬ ((nl : Int) > nc) := by omega
      simp only [a1, a2, a3, a4, decide_false, Bool.or_self]
    rw [hcond]
    simp only [Bool.false_eq_true, if_false, Sem.run_bind, run_askRoom, Result.andThen_ok, run_sizeOf' hsz w, Int.toNat_natCast]
    by_cases h0 : nc * us.length = 0
    · have e3 : ((List.replicate nc us).flatten) = [] := by
        have : ((List.replicate nc us).flatten).length = 0 := by simpa using h0
        exact List.length_eq_zero_iff.1 this
      rw [e3] at hrun
      simp only [h0, if_true, Sem.run_pure, Result.andThen_ok, Sem.run_bind]
      have e4 : ((Array.range 0).map fun i => (#[] : Array Value)[i % (#[] : Array Value).size]!) = #[] := by simp
      rw [e4, hrun]; rfl
    · have hne : us ≠ [] := by intro e; subst e; simp at h0
      simp only [h0, if_false, Sem.run_bind, hzv w, Result.andThen_ok, Sem.run_pure]
      have := range_row nc us (.inr hne)
      rw [hzc, this, hrun]; rfl
  have hgen : ∀ row o H', rowOf z nc = some row → ofList row = some o → H.alloc o = some H' → r = .val (.slice H.next 0 nl (.fix nc)) H' →
      OpOK P ρ H w (do pure (.value (← Instr.makeSlice t (σ l) (σ c)))) r := by
    intro row o H' hrow ho ha hr
    subst hr
    have := rowOf_some _ _ _ hrow
    subst this
    obtain ⟨ρ', w', hrun, hrep, hext, hr⟩ := newRow_ok' (P := P) h (ofList_content ho) (replicate_rel (hall ρ) nc) (replicate_scalar hsc nc) ha el
    refine ⟨ρ', w', .slice (some ⟨w.heap.size, 0 + 0, none⟩) nl nc, ?_, hrep, hext, .sfix hr b1⟩
    rw [Sem.run_bind, hmodel w' hrun]; rfl
  have hother : (ob (rowOf z nc) fun r => ob (ofList r) fun o => allocV H o (.slice H.next 0 nl (.fix nc))) = some r → OpOK P ρ H w (do pure (.value (← Instr.makeSlice t (σ l) (σ c)))) r := by
    intro hh
    obtain ⟨row, hrow, h1⟩ := ob_some hh
    obtain ⟨o, ho, h2⟩ := ob_some h1
    obtain ⟨H', ha, hr⟩ := allocV_inv h2
    exact hgen row o H' hrow ho ha hr
  unfold makeRow at h11
  split at h11
  · rename_i d
    obtain ⟨H', ha, rfl⟩ := allocV_inv h11
    have h12 := hall ρ
    obtain ⟨u, rfl⟩ : ∃ u, us = [u] := by
      have := h12.length
      match us, this with
      | [u], _ => exact ⟨u, rfl⟩
    have hnone := h.nxt H.next (Nat.le_refl _)
    have hsub : ρ.sub (ρ.put H.next (w.heap.size, 0, nc)) := Rho.sub_put hnone
    have hdu : RV ρ d u := by cases h12; assumption
    have hro : RO (ρ.put H.next (w.heap.size, 0, nc)) (.cells nc d .leaf) 0 nc (.cells ((List.replicate nc [u]).flatten).toArray el) := by
      refine .cells (by simp) (by omega) (fun i hi => ⟨d, u, rfl, ?_, hdu.mono hsub, hsc u (by simp)⟩) (.inl rfl)
      have := flat_get [u] (by simp) nc i (by simpa using hi)
      simp only [List.getElem?_toArray, Nat.zero_add]
      rw [this]; simp [Nat.mod_one]
    obtain ⟨h3, h4⟩ := h.alloc ha (by simp) hro
    refine ⟨_, _, .slice (some ⟨w.heap.size, 0 + 0, none⟩) nl nc, ?_, h3, h4, .sfix (e := nc) (by simp [Rho.put]) b1⟩
    rw [Sem.run_bind, hmodel _ rfl]; rfl
  · exact hother h11
end Go.Vex
namespace Go.Vex
variable {P : Program} {ρ : Rho} {H : Hp} {w : World} {e : Env} {σ : Operand → Value}
theorem makeMap_ok (h : Rep ρ H w) {t : TypeId} {x : Option Operand} {r : OR} (hh : opMakeMap H x = some r) : OpOK P ρ H w (do pure (.value (← Instr.makeMap t (x.map σ)))) r := by
  cases x with
  | some y => cases hh
  | none =>
    obtain ⟨H', ha, rfl⟩ := allocV_inv (H := H) hh
    obtain ⟨h3, h4⟩ := h.alloc (e := 0) ha (by simp) (ob := .map #[] 0) (.mapo .nil)
    refine ⟨_, _, .map (some w.heap.size), ?_, h3, h4, .map (x := (0, 0)) (by simp [Rho.put])⟩
    unfold Instr.makeMap
    simp [World.new]
theorem store_ok (h : Rep ρ H w) (he : EnvR ρ e σ) {t : TypeId} {a x : Operand} {r : OR} (hh : opStore P e H t a x = some r) : OpOK P ρ H w (do Instr.storeAt t (σ a) (σ x); pure .skip) r := by
  obtain ⟨n, hn, h1⟩ := ob_some hh
  obtain ⟨p, hp, h2⟩ := ob_some h1
  obtain ⟨q, hq, h3⟩ := ob_some h2
  obtain ⟨v, hv, h4⟩ := ob_some h3
  obtain ⟨vs, hvs, h5⟩ := ob_some h4
  obtain ⟨hb, h6⟩ := iteB_some h5
  obtain ⟨H', hH, h7⟩ := ob_some h6
  injection h7 with h7; subst h7
  obtain ⟨_, r', base, en, hr, hu⟩ := asPtr_rel hq (he _ _ hp)
  obtain ⟨us, hc, hall, hsc⟩ := cells_rel hvs (he _ _ hv)
  obtain ⟨w', hrun, hrep, hext⟩ := h.store (P := P) hr hH hall hsc
  refine ⟨ρ, w', ?_, hrep, hext⟩
  have hb := beq_eq hb
  rw [lenL_zero, hall.length] at hb
  unfold Instr.storeAt
  rw [hu]
  simp only [Instr.sureAddr, storeVar, Sem.run_bind, Sem.run_pure, Result.andThen_ok, run_sizeOf' hn w, hc]
  have : us.toArray.size = n := by simpa using hb
  simp only [this, ne_eq, not_true, if_false]
  rw [hrun]; rfl
/-! ### Maps -/
theorem asMapo_inv {o : AO} {q} (h : asMapo o = some q) : o = .mapo q.1 q.2 := by
  cases o <;> first | (injection h with h; subst h; rfl) | cases h
theorem Rep.mapAt (h : Rep ρ H w) {b r : Nat} {x : Nat × Nat} {es : List Ent} {c : Nat} (hr : ρ b = some (r, x)) (ho : H.fn b = .mapo es c) : ∃ ces, w.heap[r]? = some (.map ces c) ∧ All2 (REnt ρ) es ces.toList := by
  obtain ⟨base, en⟩ := x
  obtain ⟨ob, h1, h2⟩ := h.at_ (by rw [ho]; simp) hr
  rw [ho] at h2
  cases h2 with
  | mapo h3 => exact ⟨_, h1, h3⟩
theorem run_getObj {r : Nat} {o : Obj} (h : w.heap[r]? = some o) (hc : ∀ c el fz, o ≠ .cells c el fz) : (getObj r).run P w = .ok o w := by
  cases o with
  | cells c el fz => exact absurd rfl (hc _ _ _)
  | _ => simp [getObj, Sem.run, h]
theorem run_setObj {r : Nat} {o o' : Obj} (h : w.heap[r]? = some o) (hc : ∀ c el fz, o ≠ .cells c el fz) : (Go.setObj r o').run P w = .ok () (World.setObj w r o') := by
  cases o with
  | cells c el fz => exact absurd rfl (hc _ _ _)
  | _ => simp [Go.setObj, Sem.run, h, World.setObj]
theorem mapD_inv {d : TypeDesc} {q} (h : mapD d = some q) : d = .map q.1 q.2 := by
  cases d <;> first | (injection h with h; subst h; rfl) | cases h
/-- The map that a value names. -/
theorem mapOf_ok (h : Rep ρ H w) {v : AV} {u : Value} (hv : RV ρ v u) {es : List Ent} (hm : mapOf H v = some es) :
    (u = .map none ∧ es = []) ∨ ∃ r ces c b x, u = .map (some r) ∧ w.heap[r]? = some (.map ces c) ∧ All2 (REnt ρ) es ces.toList ∧ v = .map b ∧ ρ b = some (r, x) ∧ H.fn b = .mapo es c := by
  cases hv
  case nilm => injection hm with hm; subst hm; exact .inl ⟨rfl, rfl⟩
  case map b r x hr =>
    obtain ⟨o, ho, h1⟩ := ob_some (x := H.obj b) hm
    obtain ⟨q, hq, h2⟩ := ob_some h1
    injection h2 with h2; subst h2
    have := asMapo_inv hq
    subst this
    have hf := Hp.fn_of_obj ho
    obtain ⟨ces, h3, h4⟩ := h.mapAt hr hf
    exact .inr ⟨r, ces, q.2, b, x, rfl, h3, h4, rfl, hr, hf⟩
  all_goals cases hm
theorem keyOk_check {kd : TypeDesc} {kt : TypeId} (hk : P.underlying kt = some kd) {k : AV} (h : keyOk kd k = some ()) {u : Value} (em : Bool) : (Instr.checkKey em 10000 kt u).run P w = .ok () w := by
  unfold Instr.checkKey
  rw [Sem.run_bind, run_underlying hk w, Result.andThen_ok]
  cases kd <;> first | rfl | cases h
def FoundR (ρ : Rho) (f : Option AV) (q : Option (Nat × Value)) : Prop := match f with | none => q = none | some v => ∃ j x, q = some (j, x) ∧ RV ρ v x
theorem lookupA_now (P : Program) (w : World) {kd : TypeDesc} {k : AV} {u : Value} (hk : RV ρ k u) : ∀ (es : List Ent) (ces : List MapEntry), All2 (REnt ρ) es ces → ∀ (r : Option AV) (i : Nat), lookupA kd k es = some r →
    ∃ q, Instr.findNow kd u ces i = some q ∧ FoundR ρ r q := by
  intro es ces h
  induction h with
  | nil => intro r i hr; have h' : some none = some r := hr; injection h' with h'; subst h'; exact ⟨none, rfl, rfl⟩
  | @cons e m es ces hab _ ih =>
    intro r i hr
    have h0 : (ob (eqCellD kd k e.1) fun b => iteB b (some (some e.2.1)) (lookupA kd k es)) = some r := hr
    obtain ⟨b, hb, h1⟩ := ob_some h0
    have hn := (eqCellD_ok (P := P) (w := w) hb hk hab.1).2
    unfold Instr.findNow
    rw [hn]
    cases b with
    | true =>
      have h2 : some (some e.2.1) = some r := h1
      injection h2 with h2; subst h2
      exact ⟨_, rfl, i, m.val, rfl, hab.2.1⟩
    | false => exact ih r (i + 1) h1
theorem run_findKey {kt : TypeId} {kd : TypeDesc} (hk : P.underlying kt = some kd) {u : Value} {ces : List MapEntry} {q : Option (Nat × Value)} (h : Instr.findNow kd u ces 0 = some q) : (Instr.findKey kt u ces).run P w = .ok q w := by
  unfold Instr.findKey
  rw [Sem.run_bind, run_underlying hk w, Result.andThen_ok, h]; rfl
theorem lookup_ok (h : Rep ρ H w) (he : EnvR ρ e σ) {t : TypeId} {x i : Operand} {ok : Bool} {r : OR} (hh : opLookup P e H t x i ok = some r) : QOK P ρ H w (do pure (.value (← Instr.lookup t (σ x) (σ i) ok))) r := by
  obtain ⟨d, hd, h1⟩ := ob_some hh
  obtain ⟨q, hq, h2⟩ := ob_some h1
  obtain ⟨m, hm, h3⟩ := ob_some h2
  obtain ⟨k, hk, h4⟩ := ob_some h3
  obtain ⟨es, hes, h5⟩ := ob_some h4
  obtain ⟨kd, hkd, h6⟩ := ob_some h5
  obtain ⟨_, hko, h7⟩ := ob_some h6
  obtain ⟨f, hf, h8⟩ := ob_some h7
  clear hh h1 h2 h3 h4 h5 h6 h7
  have := mapD_inv hq
  subst this
  have hkv := he _ _ hk
  have main : ∀ ces : List MapEntry, All2 (REnt ρ) es ces → (∀ em, (Instr.checkKey em 10000 q.1 (σ i)).run P w = .ok () w) ∧
      ∃ q', (Instr.findKey q.1 (σ i) ces).run P w = .ok q' w ∧ FoundR ρ f q' := by
    intro ces hall
    obtain ⟨q', h9, h10⟩ := lookupA_now P w (ρ := ρ) hkv es ces hall f 0 hf
    exact ⟨fun em => keyOk_check hkd hko em, q', run_findKey hkd h9, h10⟩
  have fin : ∀ (ces : Array MapEntry), All2 (REnt ρ) es ces.toList → (∀ q' : Option (Nat × Value), ∀ zv, (Instr.findKey q.1 (σ i) ces.toList).run P w = .ok q' w → (∀ em, (Instr.checkKey em 10000 q.1 (σ i)).run P w = .ok () w) →
      (q' = none → (zeroValue q.2).run P w = .ok zv w) →
      (Instr.lookup t (σ x) (σ i) ok).run P w = .ok (match q' with | some p => if ok then .tuple #[p.2, .bool true] else p.2 | none => if ok then .tuple #[zv, .bool false] else zv) w) → QOK P ρ H w (do pure (.value (← Instr.lookup t (σ x) (σ i) ok))) r := by
    intro ces hall hrun
    obtain ⟨hck, q', hfk, hf'⟩ := main ces.toList hall
    cases f with
    | none =>
      subst hf'
      obtain ⟨z, hz, h9⟩ := ob_some (x := zero P q.2) h8
      obtain ⟨zv, hzv, hzr⟩ := zero_inv hz
      exact qok_of h9 (hrun none zv hfk hck fun _ => hzv w) (found_rel (hzr ρ) ok false)
    | some v =>
      obtain ⟨j, y, rfl, hy⟩ := hf'
      have h9 : valH H (found v ok true) = some r := h8
      exact qok_of h9 (hrun (some (j, y)) .nilIface hfk hck (by simp)) (found_rel hy ok true)
  rcases mapOf_ok h (he _ _ hm) hes with ⟨hu, rfl⟩ | ⟨r', ces, c, b, xx, hu, hw, hall, _, _, _⟩
  · refine fin #[] .nil fun q' zv h1 h2 h3 => ?_
    unfold Instr.lookup
    rw [hu]
    simp only [Sem.run_bind, run_underlying hd w, Result.andThen_ok, Sem.run_pure, h2, h1]
    cases q' with
    | none => simp only [Sem.run_bind, h3 rfl, Result.andThen_ok, Sem.run_pure]
    | some p => rfl
  · refine fin ces hall fun q' zv h1 h2 h3 => ?_
    unfold Instr.lookup
    rw [hu]
    simp only [Sem.run_bind, run_underlying hd w, Result.andThen_ok, Sem.run_pure, run_getObj hw (by simp), h2, h1]
    cases q' with
    | none => simp only [Sem.run_bind, h3 rfl, Result.andThen_ok, Sem.run_pure]
    | some p => rfl
end Go.Vex
