/-
  Ranges over functions; known calls.
  No condition.
-/
import Derived.Test.YtmpabjogookkpaaGreatVxG
import Derived.RangeFuncLeaves
import Derived.RangeFuncRecord
set_option linter.unusedVariables false
namespace Go.Vex
variable {P : Program} {ρ : Rho} {H : Hp} {w : World}
/-! ### A range over a function that asks for no round -/
theorem rf_ok {a : Act} {g : Operand} {ps : Array Tmp} {assign body : Code} {Q : Exit → Act → World → Prop} {call : CallF} (hC : CallOK P call) {f : FuncId} {cap : List AV} {vc : List Value} (hg : a.eval g = .func (.func f) #[] vc.toArray) (hvc : All2 (RV ρ) cap vc) (hr : Rep ρ H w)
    (hen : enterOK P f = true) {v : AV} {H4 : Hp} (hk : call f (.any :: cap) H = some (.ret v H4))
    (hQ : ∀ ρ4 w5, ρ.sub ρ4 → Rep ρ4 H4 w5 → w5.heap[w.heap.size]? = some (.deferred (some [])) → w.heap.size ≤ w5.heap.size → (∀ r, r < w.heap.size → Un ρ H r → w5.heap[r]? = w.heap[r]?) → w5.os = w.os → w5.output = w.output →
      Q .normal { a with defers := [{ target := .collected w.heap.size, args := #[] }] ++ a.defers } w5) : (Code.rangeFunc g ps assign body).wp P Q a w := by
  refine (wpIn_wide (n := 1)).1 (wpIn_rangeFunc fun fn _ => ?_)
  obtain ⟨hr4, _⟩ := hr.garbage (.deferred (some []))
  have hun4 := hr.un_new
  let lp : Loop := { state := .ready, pending := none, fn, tmps := a.tmps, params := ps, assign, body, defers := w.heap.size }
  obtain ⟨hr5, _⟩ := hr4.garbage (.loop lp)
  have hun5 := hr4.un_new
  refine ⟨w.heap.size + 1, [{ target := .collected w.heap.size, args := #[] }], World.new (World.new w (.deferred (some []))) (.loop lp), { target := .fn (.func f) vc.toArray, args := #[] ++ (#[Operand.const (.func (.yield (w.heap.size + 1)) #[] #[])].map a.eval) }, World.new (World.new w (.deferred (some []))) (.loop lp), f,
    ((.func (.yield (w.heap.size + 1)) #[] #[]) :: vc).toArray, World.new (World.new w (.deferred (some []))) (.loop lp), ?_, ?_, fun _ _ => trivial, ?_, fun h => (by cases h), ?_⟩
  · exact run_enterLoop_outer fn a.tmps ps assign body
  · unfold resolve
    simp only [hg]
    rfl
  · unfold invoke
    have e0 : ((#[] : Array Value) ++ (#[Operand.const (.func (.yield (w.heap.size + 1)) #[] #[])].map a.eval)) ++ vc.toArray = ((.func (.yield (w.heap.size + 1)) #[] #[]) :: vc).toArray := by
      apply Array.ext'; simp; rfl
    simp only [e0]
    exact enter_run hen _
  · have hargs : All2 (RV ρ) (.any :: cap) ((.func (.yield (w.heap.size + 1)) #[] #[]) :: vc) := .cons (.any _) hvc
    refine callsIn_wide.2 (Calls.mono (hC f _ H _ hk hen ρ _ _ hargs hr5) fun en w5 hp => ?_)
    obtain ⟨ρ4, u, rfl, hv4, hr6, hx6⟩ := hp
    have hsz : (World.new (World.new w (.deferred (some []))) (.loop lp)).heap.size = w.heap.size + 2 := by simp [World.new]
    have hunl : Un ρ H (w.heap.size + 1) := by
      have : (World.new w (.deferred (some []))).heap.size = w.heap.size + 1 := by simp [World.new]
      rw [← this]; exact hun5
    obtain ⟨gl, ul⟩ := hx6.frame (w.heap.size + 1) (by omega) hunl
    obtain ⟨gd, ud⟩ := hx6.frame w.heap.size (by omega) hun4
    have gl' : w5.heap[w.heap.size + 1]? = some (.loop lp) := gl.trans (by
      have h := new_get_new (World.new w (.deferred (some []))) (.loop lp)
      have hs : (World.new w (.deferred (some []))).heap.size = w.heap.size + 1 := by simp [World.new]
      rw [hs] at h; exact h)
    have gd' : w5.heap[w.heap.size]? = some (.deferred (some [])) := gd.trans (by
      rw [new_get_old _ _ (by simp [World.new])]
      exact new_get_new _ _)
    refine ⟨none, w5.putObj (w.heap.size + 1) (.loop { lp with state := .exhausted }), run_endLoop gl' (by intro e; cases e), ?_⟩
    have h5 := hx6.size
    refine hQ ρ4 _ hx6.sub (hr6.setU ul (fun c el fz e => by rw [gl'] at e; cases e) _) ((World.putObj_heap_other (by omega)).trans gd') (by simp only [World.putObj, Array.size_setIfInBounds]; omega) (fun r hr hu => ?_) hx6.os hx6.out
    obtain ⟨k3, k4⟩ := hx6.frame r (by omega) hu
    rw [World.putObj_heap_other (by omega), k3, new_get_old _ _ (by simp [World.new]; omega), new_get_old _ _ hr]
end Go.Vex
namespace Go.Vex
variable {P : Program} {ρ ρ0 : Rho} {H H0 : Hp} {w w0 : World}
/-! ### Calls that are known: in a part of the heap -/
def isDead (o : AO) : Bool := match o with | .dead => true | _ => false
noncomputable def nodeMinus (v' : AO) (ml mr : T AO → T AO) (t : T AO) : T AO := match t with | .leaf => .leaf | .node v l r => .node (iteB (isDead v') v .dead) (ml l) (mr r)
noncomputable def minusT (s : T AO) : T AO → T AO := T.rec (motive := fun _ => T AO → T AO) (fun t => t) (fun v' _ _ ml mr t => nodeMinus v' ml mr t) s
noncomputable def nodePlus (v' : AO) (l' r' : T AO) (pl pr : T AO → T AO) (t : T AO) : T AO := match t with | .leaf => .node v' l' r' | .node v l r => .node (iteB (isDead v') v v') (pl l) (pr r)
noncomputable def plusT (s : T AO) : T AO → T AO := T.rec (motive := fun _ => T AO → T AO) (fun t => t) (fun v' l' r' pl pr t => nodePlus v' l' r' pl pr t) s
structure Fact where
  f : FuncId
  args : List AV
  pre : Hp
  v : AV
  post : Hp
def FactOK (P : Program) (x : Fact) : Prop := (∀ b n d t, x.post.fn b ≠ .ro n d t) ∧ ∀ (ρ : Rho) (w : World) (us : List Value), All2 (RV ρ) x.args us → Rep ρ x.pre w → Calls P x.f us.toArray w (KPost ρ x.pre w (.ret x.v x.post))
/-- A known call, wherever its part of the heap is there. -/
noncomputable def Fact.orc (x : Fact) (args : List AV) (H : Hp) : Option KR :=
  iteB (sameL x.args args) (iteB (Nat.beq H.next x.pre.next) (iteB (subT sameAO x.pre.t H.t) (some (.ret x.v ⟨x.post.next, plusT x.post.t (minusT x.pre.t H.t)⟩)) none) none) none
/-- What is asked of a run. -/
noncomputable def Fact.fits (x : Fact) (k : KR) : Option Unit := match k with
  | .ret v H => iteB (sameAV x.v v) (iteB (Nat.beq H.next x.post.next) (iteB (subT sameAO x.post.t H.t) (some ()) none) none) none
  | .pnc .. => none
theorem sub_fn {H H1 : Hp} (h : subT sameAO H.t H1.t = true) (b : Nat) (hb : Lv (H.fn b)) : Lv (H1.fn b) := by rw [subT_fn h b hb.nd]; exact hb
theorem subT_ro : ∀ {t t' : T AO}, subT sameAO t t' = true → ∀ k n d u, t.get .dead k ≠ some (.ro n d u) := by
  intro t
  induction t with
  | leaf => intro t' _ k n d u h; rw [T.get_leaf] at h; cases h
  | node v l r ihl ihr =>
    intro t' h k n d u hg
    cases t' with
    | leaf => simp [subT] at h
    | node v' l' r' =>
      simp only [subT, Bool.and_eq_true] at h
      cases k with
      | zero =>
        rw [T.get_node_zero] at hg
        injection hg with hg; subst hg
        have := h.1
        cases v' <;> simp [sameAO] at this
      | succ m =>
        rw [T.get_node_succ] at hg
        by_cases hm : m % 2 = 0
        · rw [if_pos hm] at hg; exact ihl h.2.1 _ _ _ _ hg
        · rw [if_neg hm] at hg; exact ihr h.2.2 _ _ _ _ hg
theorem sub_ro {H H1 : Hp} (h : subT sameAO H.t H1.t = true) (b n : Nat) (d : AV) (u : T AV) : H.fn b ≠ .ro n d u := fun e => subT_ro h b n d u (by rw [← e]; exact Hp.obj_fn H b)
theorem Rep.part (h : Rep ρ H w) {H' : Hp} (hn : H'.next = H.next) (hs : subT sameAO H'.t H.t = true) : Rep ρ H' w := by
  refine ⟨fun b hb => ?_, fun b b' r x r' x' hb hb' => h.inj b b' r x r' x' (sub_fn hs b hb) (sub_fn hs b' hb'), fun b hb => h.nxt b (by omega), fun b n d t hb => absurd hb (sub_ro hs b n d t)⟩
  have := h.live b (sub_fn hs b hb)
  rw [subT_fn hs b hb.nd] at this
  exact this
theorem Un.part {H' : Hp} (hs : subT sameAO H'.t H.t = true) {r : Nat} (h : Un ρ H r) : Un ρ H' r := fun b r' x hb => h b r' x (sub_fn hs b hb)
theorem fact_run {x : Fact} {msk : FuncId → Nat} {orc : Orc} {hint : Nat → Bool} {n : Nat} (hm : P.follows .mixedOrders = true) (ho : OrcOK P orc) (hen : enterOK P x.f = true) (h : ob (callStep P msk orc (ev P hint msk orc n) x.f x.args x.pre) x.fits = some ()) : FactOK P x := by
  have hev := ev_ok (P := P) (hint := hint) (msk := msk) ho (fun _ hc => draw_ok hm hc) (fun _ hc => idle_ok hc) n
  obtain ⟨k, hk, h1⟩ := ob_some h
  refine ⟨fun b n d t => ?_, fun ρ w us ha hr => ?_⟩
  · cases k with
    | pnc v H => cases h1
    | ret v H =>
      obtain ⟨_, h1⟩ := iteB_some (b := sameAV x.v v) h1
      obtain ⟨_, h1⟩ := iteB_some h1
      obtain ⟨h4, _⟩ := iteB_some h1
      exact sub_ro h4 b n d t
  refine Calls.mono (callStep_ok (msk := msk) ho hev x.f x.args x.pre k hk hen ρ w us ha hr) fun e w' hp => ?_
  cases k with
  | pnc v H => cases h1
  | ret v H =>
    obtain ⟨h2, h1⟩ := iteB_some (b := sameAV x.v v) h1
    obtain ⟨h3, h1⟩ := iteB_some h1
    obtain ⟨h4, _⟩ := iteB_some h1
    obtain ⟨ρ', u, he, hv, hr', hx⟩ := hp
    have h3 := beq_eq h3
    refine ⟨ρ', u, he, by rw [sameAV_eq h2]; exact hv, hr'.part h3.symm h4, ⟨hx.sub, by rw [← h3]; exact hx.next, hx.size, fun r hr hu => ⟨(hx.frame r hr hu).1, (hx.frame r hr hu).2.part h4⟩, hx.os, hx.out, fun b n d t hb => absurd hb (sub_ro h4 b n d t)⟩⟩
/-! ### Parts -/
theorem isDead_iff (o : AO) : isDead o = true ↔ o = .dead := by cases o <;> simp [isDead]
theorem isDead_no {o : AO} (h : o ≠ .dead) : isDead o = false := by cases o <;> first | rfl | exact absurd rfl h
section
open Classical
theorem minus_get : ∀ (s t : T AO) (n : Nat) (o : AO), s.get .dead n = some o → (minusT s t).get .dead n = if o = .dead then t.get .dead n else some .dead := by
  intro s
  induction s with
  | leaf => intro t n o h; rw [T.get_leaf] at h; injection h with h; rw [if_pos h.symm]; rfl
  | node v' l' r' ihl ihr =>
    intro t n o h
    cases t with
    | leaf =>
      show (T.leaf : T AO).get .dead n = _
      rw [T.get_leaf]; split <;> rfl
    | node v l r =>
      show (T.node (iteB (isDead v') v .dead) (minusT l' l) (minusT r' r)).get .dead n = _
      cases n with
      | zero =>
        rw [T.get_node_zero] at h ⊢
        injection h with h; subst h
        by_cases hd : v' = .dead
        · subst hd; rw [if_pos rfl]; rfl
        · rw [if_neg hd, isDead_no hd]; rfl
      | succ m =>
        rw [T.get_node_succ] at h ⊢
        rw [T.get_node_succ]
        by_cases hm : m % 2 = 0
        · rw [if_pos hm] at h ⊢; rw [if_pos hm]; exact ihl l _ o h
        · rw [if_neg hm] at h ⊢; rw [if_neg hm]; exact ihr r _ o h
theorem plus_get : ∀ (s t : T AO) (n : Nat) (o : AO), s.get .dead n = some o → (plusT s t).get .dead n = if o = .dead then t.get .dead n else some o := by
  intro s
  induction s with
  | leaf => intro t n o h; rw [T.get_leaf] at h; injection h with h; rw [if_pos h.symm]; rfl
  | node v' l' r' ihl ihr =>
    intro t n o h
    cases t with
    | leaf =>
      show (T.node v' l' r').get .dead n = _
      rw [h, T.get_leaf]
      by_cases hd : o = .dead
      · rw [if_pos hd, hd]
      · rw [if_neg hd]
    | node v l r =>
      show (T.node (iteB (isDead v') v v') (plusT l' l) (plusT r' r)).get .dead n = _
      cases n with
      | zero =>
        rw [T.get_node_zero] at h ⊢
        injection h with h; subst h
        by_cases hd : v' = .dead
        · subst hd; rw [if_pos rfl]; rfl
        · rw [if_neg hd, isDead_no hd]; rfl
      | succ m =>
        rw [T.get_node_succ] at h ⊢
        rw [T.get_node_succ]
        by_cases hm : m % 2 = 0
        · rw [if_pos hm] at h ⊢; rw [if_pos hm]; exact ihl l _ o h
        · rw [if_neg hm] at h ⊢; rw [if_neg hm]; exact ihr r _ o h
theorem over_fn (s s' H : Hp) (b : Nat) : (⟨s'.next, plusT s'.t (minusT s.t H.t)⟩ : Hp).fn b = if s'.fn b = .dead then (if s.fn b = .dead then H.fn b else .dead) else s'.fn b := by
  have h1 := minus_get s.t H.t b _ (Hp.obj_fn s b)
  have h2 := plus_get s'.t (minusT s.t H.t) b _ (Hp.obj_fn s' b)
  unfold Hp.fn at *
  unfold Hp.obj at *
  rw [h2]
  split
  · rw [h1]; split <;> rfl
  · rfl
theorem fact_orc {x : Fact} (hx : FactOK P x) {args : List AV} {k : KR} (h : x.orc args H = some k) {us : List Value} (ha : All2 (RV ρ) args us) (hr : Rep ρ H w) : Calls P x.f us.toArray w (KPost ρ H w k) := by
  obtain ⟨h1, h⟩ := iteB_some (b := sameL x.args args) h
  obtain ⟨h2, h⟩ := iteB_some h
  obtain ⟨h3, h⟩ := iteB_some h
  injection h with h; subst h
  have h1 := (sameAV_eq_aux _).2 x.args args (Nat.le_refl _) h1
  have h2 := beq_eq h2
  rw [← h1] at ha
  have hp := hr.part h2.symm h3
  refine Calls.mono (hx.2 ρ w us ha hp) fun e w' hq => ?_
  obtain ⟨ρ', u, he, hv, hr', hext⟩ := hq
  have hfn := over_fn x.pre x.post H
  generalize hHn : (⟨x.post.next, plusT x.post.t (minusT x.pre.t H.t)⟩ : Hp) = Hn at hfn
  have hnn : Hn.next = x.post.next := by rw [← hHn]
  -- a block that is none of the part's
  have old0 : ∀ b, x.post.fn b = .dead → Hn.fn b ≠ .dead → x.pre.fn b = .dead ∧ Hn.fn b = H.fn b := by
    intro b hb hn
    have := hfn b
    rw [if_pos hb] at this
    by_cases hs : x.pre.fn b = .dead
    · rw [if_pos hs] at this; exact ⟨hs, this⟩
    · rw [if_neg hs] at this; exact absurd this hn
  have old : ∀ b, x.post.fn b = .dead → Lv (Hn.fn b) → x.pre.fn b = .dead ∧ Lv (H.fn b) ∧ Hn.fn b = H.fn b := by
    intro b hb hn
    obtain ⟨q1, q2⟩ := old0 b hb hn.nd
    exact ⟨q1, q2 ▸ hn, q2⟩
  have new : ∀ b, x.post.fn b ≠ .dead → Hn.fn b = x.post.fn b := fun b hb => by rw [hfn, if_neg hb]
  have newL : ∀ b, x.post.fn b ≠ .dead → Lv (Hn.fn b) → Lv (x.post.fn b) := fun b hb hn => new b hb ▸ hn
  have preL : ∀ b, Lv (x.pre.fn b) → Lv (H.fn b) := fun b hb => sub_fn h3 b hb
  have oldUn : ∀ b, x.pre.fn b = .dead → Lv (H.fn b) → ∀ r y, ρ b = some (r, y) → Un ρ x.pre r := by
    intro b hs hb r y hby c r' z hc hcz e
    subst e
    have hcH := sub_fn h3 c hc
    exact hr.inj b c _ y _ z hb hcH hby hcz (by intro e; subst e; rw [hs] at hc; exact hc) rfl
  have live : ∀ b, x.post.fn b = .dead → Lv (Hn.fn b) → ∃ r base en obj, ρ b = some (r, base, en) ∧ r < w.heap.size ∧ w'.heap[r]? = some obj ∧ RO ρ (Hn.fn b) base en obj ∧ Un ρ' x.post r := by
    intro b hb hn
    obtain ⟨q1, q2, q3⟩ := old b hb hn
    obtain ⟨r, base, en, obj, g1, g2, g3⟩ := hr.live b q2
    have hu := oldUn b q1 q2 r _ g1
    have hlt := hr.blk_lt q2 g1
    obtain ⟨k1, k2⟩ := hext.frame r hlt hu
    exact ⟨r, base, en, obj, g1, hlt, k1.trans g2, by rw [q3]; exact g3, k2⟩
  have hxt : Ext ρ H w ρ' Hn w' := by
    refine ⟨hext.sub, by rw [hnn]; have := hext.next; omega, hext.size, fun r hlt hu => ⟨(hext.frame r hlt (hu.part h3)).1, fun b r' y hb hy => ?_⟩, hext.os, hext.out, fun b n d t hb => ?_⟩
    · by_cases hd : x.post.fn b = .dead
      · obtain ⟨r1, base, en, obj, g1, _⟩ := live b hd hb
        have g1' := hext.sub _ _ g1
        rw [g1'] at hy
        simp only [Option.some.injEq, Prod.mk.injEq] at hy
        rw [← hy.1]
        exact hu b r1 _ (old b hd hb).2.1 g1
      · exact (hext.frame r hlt (hu.part h3)).2 b r' y (newL b hd hb) hy
    · by_cases hd : x.post.fn b = .dead
      · rw [← (old0 b hd (by rw [hb]; simp)).2]; exact hb
      · exact absurd ((new b hd).symm.trans hb) (hx.1 b n d t)
  refine ⟨ρ', u, he, hv, ⟨fun b hb => ?_, fun b b' r y r' y' hb hb' hy hy' hne => ?_, fun b hb => hr'.nxt b (by omega), hr.rdx hxt⟩, hxt⟩
  · by_cases hd : x.post.fn b = .dead
    · obtain ⟨r, base, en, obj, g1, _, g2, g3, _⟩ := live b hd hb
      exact ⟨r, base, en, obj, hext.sub _ _ g1, g2, g3.mono hext.sub⟩
    · have := hr'.live b (newL b hd hb)
      rw [← new b hd] at this
      exact this
  · by_cases hd : x.post.fn b = .dead
    · obtain ⟨r1, base, en, obj, g1, _, _, _, gu⟩ := live b hd hb
      have g1' := hext.sub _ _ g1
      rw [g1'] at hy
      simp only [Option.some.injEq, Prod.mk.injEq] at hy
      by_cases hd' : x.post.fn b' = .dead
      · obtain ⟨r2, base2, en2, obj2, g2, _⟩ := live b' hd' hb'
        have g2' := hext.sub _ _ g2
        rw [g2'] at hy'
        simp only [Option.some.injEq, Prod.mk.injEq] at hy'
        have := hr.inj b b' r1 _ r2 _ (old b hd hb).2.1 (old b' hd' hb').2.1 g1 g2 hne
        rw [← hy.1, ← hy'.1]; exact this
      · have := gu b' r' y' (newL b' hd' hb') hy'
        rw [← hy.1]; exact Ne.symm this
    · by_cases hd' : x.post.fn b' = .dead
      · obtain ⟨r2, base2, en2, obj2, g2, _, _, _, gu⟩ := live b' hd' hb'
        have g2' := hext.sub _ _ g2
        rw [g2'] at hy'
        simp only [Option.some.injEq, Prod.mk.injEq] at hy'
        have := gu b r y (newL b hd hb) hy
        rw [← hy'.1]; exact this
      · exact hr'.inj b b' r y r' y' (newL b hd hb) (newL b' hd' hb') hy hy' hne
end
end Go.Vex
namespace Go.Vex
variable {P : Program}
/-- One more known call. -/
noncomputable def withFact (x : Fact) (orc : Orc) : Orc := fun f => iteB (Nat.beq f x.f) (some (fun args H => orElseO (x.orc args H) (optRec none (fun g => g args H) (orc f)))) (orc f)
theorem withFact_ok {x : Fact} (hx : FactOK P x) {orc : Orc} (ho : OrcOK P orc) : OrcOK P (withFact x orc) := by
  intro f g hg args H k hk ρ w us ha hr
  unfold withFact at hg
  cases hb : Nat.beq f x.f with
  | false => rw [hb] at hg; exact ho f g hg args H k hk ρ w us ha hr
  | true =>
    rw [hb] at hg
    have := beq_eq hb; subst this
    have hg : some (fun args H => orElseO (x.orc args H) (optRec none (fun g => g args H) (orc x.f))) = some g := hg
    injection hg with hg; subst hg
    rcases orElseO_some (x := x.orc args H) hk with h | ⟨_, h⟩
    · exact fact_orc hx h ha hr
    · cases ho2 : orc x.f with
      | none => rw [ho2] at h; cases h
      | some g => rw [ho2] at h; exact ho x.f g ho2 args H k h ρ w us ha hr
end Go.Vex
