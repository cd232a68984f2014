/-
  Idle rounds; closed runs; walks by hand.
  No condition.
-/
import Derived.Test.YtmpabjogookkpaaGreatVxF
import Derived.Below
import Derived.Test.YtmpabjogookkpaaGreatVxA
import Derived.Maps.RangeRun
set_option linter.unusedVariables false
namespace Go.Vex
variable {ρ ρ' : Rho}
/-! ### A value that was named in the smaller map is named there still -/
theorem All2.back_of {l : List AV} (ih : ∀ a ∈ l, ∀ v0 v, RV ρ a v0 → RV ρ' a v → RV ρ a v) : ∀ {vs0 vs : List Value}, All2 (RV ρ) l vs0 → All2 (RV ρ') l vs → All2 (RV ρ) l vs := by
  induction l with
  | nil => intro vs0 vs _ h; cases h; exact .nil
  | cons a l ih' =>
    intro vs0 vs h0 h
    cases h0 with
    | cons p0 q0 => cases h with
      | cons p q => exact .cons (ih a (by simp) _ _ p0 p) (ih' (fun a ha => ih a (by simp [ha])) q0 q)
theorem RV.back_size (hs : ρ.sub ρ') : ∀ (n : Nat) (a : AV), SizeOf.sizeOf a ≤ n → ∀ v0 v, RV ρ a v0 → RV ρ' a v → RV ρ a v := by
  intro n
  induction n with
  | zero => intro a ha; cases a <;> simp at ha
  | succ n ih =>
    intro a ha v0 v h0 hv
    have mem : ∀ (l : List AV), SizeOf.sizeOf l ≤ n → ∀ a ∈ l, ∀ v0 v, RV ρ a v0 → RV ρ' a v → RV ρ a v := fun l hl a hal => ih a (by have := List.sizeOf_lt_of_mem hal; omega)
    have same : ∀ {b : Nat} {x y : Nat × Nat × Nat}, ρ b = some x → ρ' b = some y → ρ b = some y := by
      intro b x y h1 h2
      rw [hs _ _ h1] at h2; rw [h1]; exact h2
    cases hv with
    | any => exact .any _
    | undef => exact .undef
    | bool => exact .bool _
    | int => exact .int _ _
    | str => exact .str _
    | ptr e => cases h0 with | ptr e0 => exact .ptr (same e0 e)
    | nilp => exact .nilp
    | sfix e hl => cases h0 with | sfix e0 _ => exact .sfix (same e0 e) hl
    | sopn e hl hk hs => cases h0 with | sopn e0 _ _ _ => exact .sopn (same e0 e) hl hk hs
    | nils => exact .nils
    | zsl => exact .zsl
    | map e => cases h0 with | map e0 => exact .map (same e0 e)
    | nilm => exact .nilm
    | func ha' hc =>
      simp at ha
      cases h0 with
      | func ha0 hc0 => exact .func (ha0.back_of (mem _ (by omega)) ha') (hc0.back_of (mem _ (by omega)) hc)
    | nilf => exact .nilf
    | iface hv => simp at ha; cases h0 with | iface h0 => exact .iface (ih _ (by omega) _ _ h0 hv)
    | nili => exact .nili
    | agg hl hs => simp at ha; cases h0 with | agg hl0 _ => exact .agg (hl0.back_of (mem _ (by omega)) hl) hs
    | tup hl => simp at ha; cases h0 with | tup hl0 => exact .tup (hl0.back_of (mem _ (by omega)) hl)
theorem RV.back (hs : ρ.sub ρ') {a : AV} {v0 v : Value} (h0 : RV ρ a v0) (h : RV ρ' a v) : RV ρ a v := RV.back_size hs _ a (Nat.le_refl _) v0 v h0 h
theorem All2.backE (hs : ρ.sub ρ') {es : List Ent} : ∀ {m0 m : List MapEntry}, All2 (REnt ρ) es m0 → All2 (REnt ρ') es m → All2 (REnt ρ) es m := by
  induction es with
  | nil => intro m0 m _ h; cases h; exact .nil
  | cons e es ih =>
    intro m0 m h0 h
    cases h0 with
    | cons p0 q0 => cases h with
      | cons p q => exact .cons ⟨p0.1.back hs p.1, p0.2.1.back hs p.2.1, p.2.2⟩ (ih q0 q)
theorem RO.back (hs : ρ.sub ρ') {o : AO} {base e : Nat} {ob0 ob : Obj} (h0 : RO ρ o base e ob0) (h : RO ρ' o base e ob) : RO ρ o base e ob := by
  cases h with
  | cells h1 h2 h3 h4 => cases h0 with
    | cells g1 g2 g3 g4 =>
      refine .cells h1 h2 (fun i hi => ?_) h4
      obtain ⟨a, v, q1, q2, q3, q4⟩ := h3 i hi
      obtain ⟨a', v0, p1, p2, p3, p4⟩ := g3 i hi
      rw [q1] at p1; injection p1 with p1; subst p1
      exact ⟨a, v, q1, q2, p3.back hs q3, q4⟩
  | mapo h1 => cases h0 with
    | mapo g1 => exact .mapo (g1.backE hs h1)
  | siter => exact .siter
theorem Rep.back {H H1 : Hp} {w w' : World} (h : Rep ρ H w) (h' : Rep ρ' H1 w') (hs : ρ.sub ρ') (hk : ∀ b, Lv (H.fn b) → H1.fn b = H.fn b) (hx : Ext ρ H w ρ H w') : Rep ρ H w' := by
  refine ⟨fun b hb => ?_, h.inj, h.nxt, h.rdx hx⟩
  obtain ⟨r, base, e, ob0, h1, _, h3⟩ := h.live b hb
  have e1 := hk b hb
  obtain ⟨ob, g1, g2⟩ := h'.at_ (b := b) (by rw [e1]; exact hb) (hs _ _ h1)
  rw [e1] at g2
  exact ⟨r, base, e, ob, h1, g1, h3.back hs g2⟩
theorem Ext.back {H H1 : Hp} {w w' : World} (h : Ext ρ H w ρ' H1 w') : Ext ρ H w ρ H w' :=
  ⟨ρ.sub_refl, Nat.le_refl _, h.size, fun r hr hu => ⟨(h.frame r hr hu).1, hu⟩, h.os, h.out, fun _ _ _ _ h => h⟩
/-! ### Sameness of tries -/
theorem sameT_eq : ∀ {t u : T AV}, sameT sameAV t u = true → t = u := by
  intro t
  induction t with
  | leaf => intro u h; cases u with | leaf => rfl | node => simp [sameT] at h
  | node v l r ihl ihr =>
    intro u h
    cases u with
    | leaf => simp [sameT] at h
    | node v' l' r' =>
      simp only [sameT, Bool.and_eq_true] at h
      rw [sameAV_eq h.1, ihl h.2.1, ihr h.2.2]
theorem sameES_eq : ∀ {x y : List Ent}, sameES x y = true → x = y := by
  intro x
  induction x with
  | nil => intro y h; cases y with | nil => rfl | cons => simp [sameES] at h
  | cons e x ih =>
    intro y h
    obtain ⟨a, b, n⟩ := e
    cases y with
    | nil => simp [sameES] at h
    | cons f y =>
      obtain ⟨c, d, m⟩ := f
      simp only [sameES, Bool.and_eq_true] at h
      rw [sameAV_eq h.1, sameAV_eq h.2.1, beq_eq h.2.2.1, ih h.2.2.2]
theorem sameAO_eq {o o' : AO} (h : sameAO o o' = true) (hd : o ≠ .dead) : o' = o := by
  cases o with
  | dead => exact absurd rfl hd
  | cells n d t => cases o' <;> simp only [sameAO, Bool.and_eq_true, reduceCtorEq] at h
                   rw [beq_eq h.1, sameAV_eq h.2.1, sameT_eq h.2.2]
  | mapo es c => cases o' <;> simp only [sameAO, Bool.and_eq_true, reduceCtorEq] at h
                 rw [beq_eq h.1, sameES_eq h.2]
  | siter s p => cases o' <;> simp only [sameAO, Bool.and_eq_true, reduceCtorEq, strEq_iff, decide_eq_true_eq] at h
                 rw [h.1, beq_eq h.2]
  | ro n d t => cases o' <;> simp [sameAO] at h
theorem subT_get : ∀ {t t' : T AO}, subT sameAO t t' = true → ∀ n o, t.get .dead n = some o → o ≠ .dead → t'.get .dead n = some o := by
  intro t
  induction t with
  | leaf => intro t' _ n o h hd; rw [T.get_leaf] at h; injection h with h; exact absurd h.symm hd
  | node v l r ihl ihr =>
    intro t' h n o hg hd
    cases t' with
    | leaf => simp [subT] at h
    | node v' l' r' =>
      simp only [subT, Bool.and_eq_true] at h
      cases n with
      | zero =>
        rw [T.get_node_zero] at hg ⊢
        injection hg with hg; subst hg
        rw [sameAO_eq h.1 hd]
      | succ m =>
        rw [T.get_node_succ] at hg ⊢
        by_cases hm : m % 2 = 0
        · rw [if_pos hm] at hg ⊢; exact ihl h.2.1 _ _ hg hd
        · rw [if_neg hm] at hg ⊢; exact ihr h.2.2 _ _ hg hd
theorem subT_fn {H H1 : Hp} (h : subT sameAO H.t H1.t = true) (b : Nat) (hb : H.fn b ≠ .dead) : H1.fn b = H.fn b :=
  Hp.fn_of_obj (subT_get h b _ (Hp.obj_fn H b) hb)
end Go.Vex
namespace Go.Vex
variable {P : Program} {ρ : Rho} {H : Hp} {w : World}
/-! ### Idle rounds -/
theorem apart_inv {i n t f g d u : Nat} (h : apart i n t f g d u = true) : (i ≠ t ∧ i ≠ g ∧ i ≠ d ∧ i ≠ u) ∧ i ≠ n ∧ (n ≠ t ∧ n ≠ g ∧ n ≠ d ∧ n ≠ u) ∧ (f ≠ t ∧ f ≠ g ∧ f ≠ d ∧ f ≠ u) ∧ f ≠ i := by
  simp only [apart, Bool.and_eq_true, bne_iff_ne, ne_eq] at h
  obtain ⟨⟨⟨⟨⟨⟨⟨⟨⟨⟨⟨⟨⟨h1, h2⟩, h3⟩, h4⟩, h5⟩, h6⟩, h7⟩, h8⟩, h9⟩, h10⟩, h11⟩, h12⟩, h13⟩, h14⟩ := h
  exact ⟨⟨h1, h2, h3, h4⟩, h5, ⟨h6, h7, h8, h9⟩, ⟨h10, h11, h12, h13⟩, h14⟩
theorem idleShape_inv {c : Code} {q : Idle} (h : idleShape c = some q) : ∃ id1 ty p1 b1 c1 d1 y id2 b2 c2 d2 p3 b3 c3 d3 id3 ty4 p4 b4 c4 d4 b5 c5 d5,
    c = .seq (.region id1 ⟨[⟨some q.t, .binOp .lss ty (.tmp q.i) (.tmp q.n) p1, b1, c1, d1, none⟩]⟩ false)
      (.seq (.cond (.tmp q.t) .skip (.exit q.x)) (.seq (.block y (.region id2 ⟨[⟨some q.g, .move (.tmp q.f), b2, c2, d2, none⟩, ⟨some q.d, .call ⟨.value (.tmp q.g), ⟨[]⟩, p3⟩, b3, c3, d3, none⟩]⟩ false))
        (.region id3 ⟨[⟨some q.u, .binOp .add ty4 (.tmp q.i) (.const (.int .i64 1)) p4, b4, c4, d4, none⟩, ⟨some q.i, .move (.tmp q.u), b5, c5, d5, none⟩]⟩ false)))
    ∧ apart q.i q.n q.t q.f q.g q.d q.u = true := by
  unfold idleShape at h
  split at h
  · split at h
    · rename_i hc
      injection h with h; subst h
      simp only [Bool.and_eq_true, decide_eq_true_eq] at hc
      obtain ⟨⟨⟨⟨⟨⟨rfl, rfl⟩, rfl⟩, rfl⟩, rfl⟩, _⟩, ha⟩ := hc
      exact ⟨_, _, _, _, _, _, _, _, _, _, _, _, _, _, _, _, _, _, _, _, _, _, _, _, rfl, ha⟩
    · cases h
  · cases h

theorem wpOps_one {ops : Array Oper} {Q : Exit → Act → World → Prop} {a : Act} {o : Oper} {i : Nat} {rest : List Nat} {u : Value} (ho : ops[i]? = some o) (hg : o.guard = none) (hrun : (execOp a.eval o).run P w = .ok (.value u) w) (hk : wpOps P ops Q rest (a.put o.dst u) w) : wpOps P ops Q (i :: rest) a w := by
  rw [wpOps_cons]
  unfold wpOp
  have hw : Region.wanted o (yielded ops a.tmps) = true := by unfold Region.wanted; rw [hg]
  simp only [ho, hw, if_true]
  left
  unfold Oper.wp
  rw [hrun]
  exact hk
/-- Within idle rounds. -/
structure IdS (P : Program) (ρ : Rho) (fi : FI) (q : Idle) (s : St) (c : Nat) (w0 : World) (a : Act) (w : World) : Prop where
  env : ∀ t v, t ≠ q.t → t ≠ q.g → t ≠ q.d → t ≠ q.u → t ≠ q.i → look fi.mask [] s.tm t = some v → RV ρ v (a.tmps.getD t undef)
  size : a.tmps.size = fi.n
  i : a.tmps.getD q.i undef = .int .i64 c
  df : DfR P ρ s.df a.defers
  rep : Rep ρ s.H w
  ext : Ext ρ s.H w0 ρ s.H w
theorem IdS.put {fi : FI} {q : Idle} {s : St} {c : Nat} {w0 : World} {a : Act} (h : IdS P ρ fi q s c w0 a w) {t : Tmp} (ht : t = q.t ∨ t = q.g ∨ t = q.d ∨ t = q.u) (hi : q.i ≠ t) (u : Value) : IdS P ρ fi q s c w0 (a.put (some t) u) w := by
  refine ⟨fun t' v n1 n2 n3 n4 n5 hv => ?_, put_size.trans h.size, ?_, h.df, h.rep, h.ext⟩
  · rw [put_getD_ne t' (by intro e; injection e with e; subst e; rcases ht with e | e | e | e <;> exact absurd e (by assumption))]
    exact h.env t' v n1 n2 n3 n4 n5 hv
  · rw [put_getD_ne q.i (by intro e; injection e with e; exact hi e.symm)]
    exact h.i
theorem put_at {a : Act} {t : Tmp} {u : Value} (h : t < a.tmps.size) : (a.put (some t) u).tmps.getD t undef = u := by
  rw [put_getD t (fun d hd => by injection hd with hd; subst hd; exact h), if_pos rfl]
end Go.Vex
namespace Go.Vex
variable {P : Program} {ρ : Rho} {H : Hp} {w : World}
open Classical in
theorem bin_run (h : Rep ρ H w) {σ : Operand → Value} {o : Oper} {op : BinOp} {ty : TypeId} {x y : Operand} {p} (ho : o.op = .binOp op ty x y p) (hne : x ≠ y) {A B V : AV} (hx : RV ρ A (σ x)) (hy : RV ρ B (σ y)) (hb : binA P op ty A B = some V) :
    ∃ u, (execOp σ o).run P w = .ok (.value u) w ∧ RV ρ V u := by
  let e : Env := fun z => if z = x then some A else if z = y then some B else none
  have he1 : e x = some A := by simp [e]
  have he2 : e y = some B := by simp [e, Ne.symm hne]
  have hq : Go.Vex.quiet o.op = true := by rw [ho]; rfl
  have hop : opA P o.op e H = some (.val V H) := by
    rw [ho]
    show ob (e x) (fun a => ob (e y) fun b => ob (binA P op ty a b) fun v => valH H v) = _
    rw [he1, he2]
    show ob (binA P op ty A B) (fun v => valH H v) = _
    rw [hb]; rfl
  obtain ⟨v', u, e1, h1, h2⟩ := quiet_ok' (P := P) (w := w) h hq (σ := σ) (fun z _ v hv => by
    simp only [e] at hv
    split at hv
    · rename_i e1; injection hv with hv; subst hv; subst e1; exact hx
    · split at hv
      · rename_i e1; injection hv with hv; subst hv; subst e1; exact hy
      · cases hv) hop
  injection e1 with e1; subst e1
  exact ⟨u, h1, h2⟩
theorem move_run {σ : Operand → Value} {o : Oper} {x : Operand} (ho : o.op = .move x) : (execOp σ o).run P w = .ok (.value (σ x)) w := by
  unfold execOp; rw [ho]; rfl
open Classical in
theorem call_run (h : Rep ρ H w) {σ : Operand → Value} {o : Oper} {f : Operand} {ats} (ho : o.op = .call ⟨.value f, ⟨[]⟩, ats⟩) {g : FuncId} {cap : List AV} (hf : RV ρ (.func g [] cap) (σ f)) (hen : enterOK P g = true) :
    ∃ vs : List Value, (execOp σ o).run P w = .ok (.enter g vs.toArray) w ∧ All2 (RV ρ) cap vs := by
  let e : Env := fun z => if z = f then some (.func g [] cap) else none
  have he : EnvR ρ e σ := by
    intro z v hv
    simp only [e] at hv
    split at hv
    · rename_i e1; injection hv with hv; subst hv; subst e1; exact hf
    · cases hv
  have hop : opA P o.op e H = some (.call g cap) := by
    rw [ho]
    show ob (some []) (fun args => ob (e f) fun fv => callValue P fv args) = _
    simp only [ob_mk]
    have : e f = some (.func g [] cap) := by simp [e]
    rw [this]
    show iteB (enterOK P g) (ob (app [] cap) fun r => ob (app [] r) fun r => some (OR.call g r)) none = _
    rw [hen]; rfl
  obtain ⟨_, vs, h1, h2⟩ := opA_ok (P := P) (w := w) h he hop
  exact ⟨vs, h1, h2⟩
theorem idleEnd_inv {q : Idle} {s : St} {N : Nat} {k : KR} {r : CR} (h : idleEnd q s N k = some r) : ∃ v H1 tm, k = .ret v H1 ∧ subT sameAO s.H.t H1.t = true ∧ idleTm q s.tm N = some tm ∧ r = .exit q.x ⟨tm, s.df, s.H⟩ := by
  cases k with
  | pnc v H => cases h
  | ret v H1 =>
    obtain ⟨_, h1⟩ := iteB_some (b := isUnit v) h
    obtain ⟨h2, h3⟩ := iteB_some h1
    obtain ⟨tm, h4, h5⟩ := ob_some h3
    injection h5 with h5
    exact ⟨v, H1, tm, rfl, h2, h4, h5.symm⟩
theorem idleTm_get {q : Idle} {tm tm' : Tm} {N : Nat} (h : idleTm q tm N = some tm') (m : Nat) : tm'.get .any m = if m = q.i then some (.int .i64 (.ofNat N)) else if m = q.u then some .any else if m = q.d then some .any else if m = q.g then some .any else if m = q.t then some .any else tm.get .any m := by
  obtain ⟨t1, h1, h2⟩ := ob_some h
  obtain ⟨t2, h3, h4⟩ := ob_some h2
  obtain ⟨t3, h5, h6⟩ := ob_some h4
  obtain ⟨t4, h7, h8⟩ := ob_some h6
  rw [T.set_get .any _ t4 _ _ h8, T.set_get .any _ t3 _ _ h7, T.set_get .any _ t2 _ _ h5, T.set_get .any _ t1 _ _ h3, T.set_get .any _ tm _ _ h1]
theorem isI64_inv {k : IntKind} (h : isI64 k = true) : k = .i64 := by cases k <;> first | rfl | cases h
theorem add_one {n : Nat} {ty : TypeId} (h : n < 9223372036854775807) : binA P .add ty (.int .i64 (.ofNat n)) (.int .i64 1) = some (.int .i64 (.ofNat (n + 1))) := by
  have h1 : wrapK .i64 (Int.add (.ofNat n) 1) = .ofNat (n + 1) := by
    show wrapI64 (Int.add (.ofNat n) 1) = _
    rw [show Int.add (.ofNat n) 1 = Int.ofNat (n + 1) from rfl]
    show iteB (Nat.ble (n + 1) 9223372036854775807) (Int.ofNat (n + 1)) _ = _
    have : Nat.ble (n + 1) 9223372036854775807 = true := by rw [Nat.ble_eq]; omega
    rw [this]; rfl
  show mkInt .i64 (wrapK .i64 (Int.add (.ofNat n) 1)) = _
  rw [h1]; rfl

theorem RV.int_inv {k : IntKind} {n : Int} {u : Value} (h : RV ρ (.int k n) u) : u = .int k n := by cases h; rfl
theorem wpOps_enter {ops : Array Oper} {Q : Exit → Act → World → Prop} {a : Act} {o : Oper} {i : Nat} {rest : List Nat} {g : FuncId} {vs : Array Value} (ho : ops[i]? = some o) (hg : o.guard = none) (hrun : (execOp a.eval o).run P w = .ok (.enter g vs) w)
    (hk : Calls P g vs w fun | .returned v, w'' => wpOps P ops Q rest (a.put o.dst v) w'' | .panicked chain, w'' => Q (.panic chain) a w'' | .outgrown, _ => LetsOut Q) : wpOps P ops Q (i :: rest) a w := by
  rw [wpOps_cons]
  unfold wpOp
  have hw : Region.wanted o (yielded ops a.tmps) = true := by unfold Region.wanted; rw [hg]
  simp only [ho, hw, if_true]
  left
  unfold Oper.wp
  rw [hrun]
  exact hk
theorem idle_ok {hint : Nat → Bool} {call : CallF} (hc : CallOK P call) : IdleOK P hint call := by
  intro fi code s r h ρ a0 w0 hs
  obtain ⟨q, hq, h⟩ := ob_some (x := idleShape code) h
  obtain ⟨hin, h⟩ := iteB_some (b := idleIn fi q) h
  obtain ⟨iv, hi, h⟩ := ob_some h
  obtain ⟨ci, hci, h⟩ := ob_some h
  obtain ⟨c', hc', h⟩ := ob_some h
  obtain ⟨_, h⟩ := iteB_some h
  obtain ⟨nv, hn, h⟩ := ob_some h
  obtain ⟨ni, hni, h⟩ := ob_some h
  obtain ⟨N, hN, h⟩ := ob_some h
  obtain ⟨k1, h⟩ := iteB_some h
  obtain ⟨k2, h⟩ := iteB_some h
  obtain ⟨hlt, h⟩ := iteB_some h
  obtain ⟨hmax, h⟩ := iteB_some h
  obtain ⟨fv, hf, h⟩ := ob_some h
  obtain ⟨g, hg, h⟩ := ob_some h
  obtain ⟨hen, h⟩ := iteB_some h
  obtain ⟨hg0, h⟩ := iteB_some h
  obtain ⟨kr, hkr, h⟩ := ob_some h
  obtain ⟨v, H1, tm, rfl, hsub, htm, rfl⟩ := idleEnd_inv h
  clear h
  have hg0 := len0 hg0
  obtain ⟨z1, z2⟩ := andB_true hin
  obtain ⟨z3, z4⟩ := andB_true z2
  obtain ⟨z5, z6⟩ := andB_true z4
  obtain ⟨z7, z8⟩ := andB_true z6
  obtain ⟨z9, z10⟩ := andB_true z8
  obtain ⟨gi, z11⟩ := andB_true z10
  obtain ⟨gn, gf⟩ := andB_true z11
  have li := blt_lt z1; have lt := blt_lt z3; have lg := blt_lt z5; have ld := blt_lt z7; have lu := blt_lt z9
  clear hin z1 z2 z3 z4 z5 z6 z7 z8 z9 z10 z11
  have hlt := blt_lt hlt
  have hmax := blt_lt hmax
  obtain ⟨id1, ty, p1, b1, c1, d1, y, id2, b2, c2, d2, p3, b3, c3, d3, id3, ty4, p4, b4, c4, d4, b5, c5, d5, hcode, hap⟩ := idleShape_inv hq
  obtain ⟨⟨i1, i2, i3, i4⟩, i5, ⟨n1, n2, n3, n4⟩, ⟨f1, f2, f3, f4⟩, f5⟩ := apart_inv hap
  -- what the slots hold
  have hfv : fv = .func g.1 [] g.2.2 := by
    cases fv with
    | func f a b => injection hg with hg; subst hg; simp only at hg0; subst hg0; rfl
    | _ => cases hg
  have hnv : nv = .int .i64 (.ofNat N) := by
    cases nv with
    | int k n => injection hni with hni; subst hni; have := isI64_inv k2; simp only at this; subst this; have := intNat_inv hN; exact congrArg (AV.int .i64) this
    | _ => cases hni
  have hiv : iv = .int .i64 (.ofNat c') := by
    cases iv with
    | int k n => injection hci with hci; subst hci; have := isI64_inv k1; simp only at this; subst this; have := intNat_inv hc'; exact congrArg (AV.int .i64) this
    | _ => cases hci
  subst hfv; subst hnv; subst hiv
  -- the rounds
  have main : ∀ (k c : Nat), c + k = N → ∀ (a : Act) (w : World), IdS P ρ fi q s c w0 a w →
      LoopWp P code (CPost P ρ s.H w0 fi (.exit q.x ⟨tm, s.df, s.H⟩)) a w := by
    intro k
    induction k with
    | zero =>
      intro c hcN a w hI
      have hcN : c = N := by omega
      subst hcN
      refine LoopWp.unroll ?_
      generalize hL : LoopWp P code (CPost P ρ s.H w0 fi (.exit q.x ⟨tm, s.df, s.H⟩)) = L
      rw [hcode]
      refine wp_seq (wp_region ?_)
      have hnn : RV ρ (.int .i64 (.ofNat c)) (a.tmps.getD q.n undef) := hI.env q.n _ n1 n2 n3 n4 (Ne.symm i5) (by rw [look_glob gn]; exact hn)
      have hii : RV ρ (.int .i64 (.ofNat c)) (a.tmps.getD q.i undef) := by rw [hI.i]; exact .int _ _
      obtain ⟨u, hu, hv⟩ := bin_run (P := P) (w := w) (σ := a.eval) (o := ⟨some q.t, .binOp .lss ty (.tmp q.i) (.tmp q.n) p1, b1, c1, d1, none⟩) hI.rep rfl (by intro e; injection e with e; exact i5 e) hii hnn (V := .bool (intLt c c)) rfl
      have : intLt (c : Int) c = false := by rw [intLt_iff]; simp
      rw [this] at hv
      cases hv
      refine wpOps_one rfl rfl hu ?_
      show wpOps P _ _ [] (a.put (some q.t) (.bool false)) w
      have h1 := hI.put (.inl rfl) i1 (.bool false)
      refine wp_seq (wp_cond_false ?_ (wp_exit ?_))
      · exact put_at (by rw [hI.size]; exact lt)
      · refine ⟨rfl, ρ, ⟨⟨h1.size, fun t v hv => ?_⟩, h1.df, h1.rep⟩, h1.ext⟩
        cases hgl : isGlob fi.mask t with
        | false => rw [look_loc hgl] at hv; cases hv
        | true =>
          rw [look_glob hgl] at hv
          have hv : tm.get .any t = some v := hv
          rw [idleTm_get htm] at hv
          by_cases e : t = q.i
          · rw [if_pos e] at hv; injection hv with hv; subst hv; subst e; rw [h1.i]; exact .int _ _
          rw [if_neg e] at hv
          by_cases e1 : t = q.u
          · rw [if_pos e1] at hv; injection hv with hv; subst hv; exact .any _
          rw [if_neg e1] at hv
          by_cases e2 : t = q.d
          · rw [if_pos e2] at hv; injection hv with hv; subst hv; exact .any _
          rw [if_neg e2] at hv
          by_cases e3 : t = q.g
          · rw [if_pos e3] at hv; injection hv with hv; subst hv; exact .any _
          rw [if_neg e3] at hv
          by_cases e4 : t = q.t
          · rw [if_pos e4] at hv; injection hv with hv; subst hv; exact .any _
          rw [if_neg e4] at hv
          exact h1.env t v e4 e3 e2 e1 e (by rw [look_glob hgl]; exact hv)
    | succ k ih =>
      intro c hcN a w hI
      refine LoopWp.unroll ?_
      generalize hL : LoopWp P code (CPost P ρ s.H w0 fi (.exit q.x ⟨tm, s.df, s.H⟩)) = L
      rw [hcode]
      refine wp_seq (wp_region ?_)
      have hnn : RV ρ (.int .i64 (.ofNat N)) (a.tmps.getD q.n undef) := hI.env q.n _ n1 n2 n3 n4 (Ne.symm i5) (by rw [look_glob gn]; exact hn)
      have hii : RV ρ (.int .i64 (.ofNat c)) (a.tmps.getD q.i undef) := by rw [hI.i]; exact .int _ _
      obtain ⟨u, hu, hv⟩ := bin_run (P := P) (w := w) (σ := a.eval) (o := ⟨some q.t, .binOp .lss ty (.tmp q.i) (.tmp q.n) p1, b1, c1, d1, none⟩) hI.rep rfl (by intro e; injection e with e; exact i5 e) hii hnn (V := .bool (intLt c N)) rfl
      have : intLt (c : Int) N = true := by rw [intLt_iff]; simp; omega
      rw [this] at hv
      cases hv
      refine wpOps_one rfl rfl hu ?_
      show wpOps P _ _ [] (a.put (some q.t) (.bool true)) w
      have h1 := hI.put (.inl rfl) i1 (.bool true)
      refine wp_seq (wp_cond_true (put_at (by rw [hI.size]; exact lt)) (wp_skip ?_))
      refine wp_seq (wp_block (wp_region ?_))
      -- the call
      refine wpOps_one rfl rfl (move_run rfl) ?_
      show wpOps P _ _ [1] ((a.put (some q.t) (.bool true)).put (some q.g) ((a.put (some q.t) (.bool true)).eval (.tmp q.f))) w
      have h2 := h1.put (t := q.g) (.inr (.inl rfl)) i2 ((a.put (some q.t) (.bool true)).eval (.tmp q.f))
      have hff : RV ρ (.func g.1 [] g.2.2) ((a.put (some q.t) (.bool true)).eval (.tmp q.f)) := h1.env q.f _ f1 f2 f3 f4 f5 (by rw [look_glob gf]; exact hf)
      generalize (a.put (some q.t) (.bool true)).eval (.tmp q.f) = fu at h2 hff
      have hgg : RV ρ (.func g.1 [] g.2.2) (((a.put (some q.t) (.bool true)).put (some q.g) fu).eval (.tmp q.g)) := by
        have : ((a.put (some q.t) (.bool true)).put (some q.g) fu).eval (.tmp q.g) = fu := put_at (by rw [h1.size]; exact lg)
        rw [this]; exact hff
      generalize ((a.put (some q.t) (.bool true)).put (some q.g) fu) = a2 at h2 hgg
      obtain ⟨vs, hrun, hall⟩ := call_run (P := P) (w := w) (σ := a2.eval) (o := ⟨some q.d, .call ⟨.value (.tmp q.g), ⟨[]⟩, p3⟩, b3, c3, d3, none⟩) h2.rep rfl hgg hen
      refine wpOps_enter rfl rfl hrun ?_
      refine Calls.mono (hc g.1 g.2.2 s.H _ hkr hen ρ w vs hall h2.rep) fun en w' hp => ?_
      obtain ⟨ρ', u', rfl, _, hr', hext'⟩ := hp
      have hrep := h2.rep.back hr' hext'.sub (fun b hb => subT_fn hsub b hb.nd) hext'.back
      have h3 : IdS P ρ fi q s c w0 (a2.put (some q.d) u') w' := by
        have := h2.put (t := q.d) (.inr (.inr (.inl rfl))) i3 u'
        exact ⟨this.env, this.size, this.i, this.df, hrep, h2.ext.trans hext'.back⟩
      show wpOps P _ _ [] (a2.put (some q.d) u') w'
      generalize (a2.put (some q.d) u') = a3 at h3
      -- one more
      refine wp_region ?_
      have hi3 : RV ρ (.int .i64 (.ofNat c)) (a3.tmps.getD q.i undef) := by rw [h3.i]; exact .int _ _
      obtain ⟨u, hu, hv⟩ := bin_run (P := P) (w := w') (σ := a3.eval) (o := ⟨some q.u, .binOp .add ty4 (.tmp q.i) (.const (.int .i64 1)) p4, b4, c4, d4, none⟩) h3.rep rfl (by intro e; cases e) hi3 (B := .int .i64 1) (.int _ _) (add_one (by omega))
      cases hv
      refine wpOps_one rfl rfl hu ?_
      show wpOps P _ _ [1] (a3.put (some q.u) (.int .i64 (.ofNat (c + 1)))) w'
      have h4 := h3.put (t := q.u) (.inr (.inr (.inr rfl))) i4 (.int .i64 (.ofNat (c + 1)))
      refine wpOps_one rfl rfl (move_run rfl) ?_
      have : (a3.put (some q.u) (.int .i64 (.ofNat (c + 1)))).eval (.tmp q.u) = .int .i64 (.ofNat (c + 1)) := put_at (by rw [h3.size]; exact lu)
      rw [this]
      generalize (a3.put (some q.u) (.int .i64 (.ofNat (c + 1)))) = a4 at h4
      show L _ _
      rw [← hL]
      refine ih (c + 1) (by omega) _ w' ⟨fun t v m1 m2 m3 m4 m5 hv => ?_, put_size.trans h4.size, put_at (by rw [h4.size]; exact li), h4.df, h4.rep, h4.ext⟩
      rw [put_getD_ne t (by intro e; injection e with e; exact m5 e.symm)]
      exact h4.env t v m1 m2 m3 m4 m5 hv
  refine main (N - c') c' (by omega) a0 w0 ⟨fun t v _ _ _ _ _ hv => hs.env.rel t v hv, hs.env.size, ?_, hs.df, hs.rep, Ext.refl _ _ _⟩
  exact (hs.env.rel q.i _ (by rw [look_glob gi]; exact hi)).int_inv
end Go.Vex
namespace Go.Vex
variable {P : Program}
theorem Rep.empty (w : World) : Rep (fun _ => none) ⟨0, .leaf⟩ w :=
  have hf : ∀ b, (Hp.mk 0 T.leaf).fn b = .dead := fun b => Hp.fn_of_obj (o := AO.dead) (show T.get AO.dead T.leaf b = some AO.dead from T.get_leaf AO.dead b)
  ⟨fun b hb => by rw [hf b] at hb; exact hb.elim, fun b b' r x r' x' hb => by rw [hf b] at hb; exact hb.elim, fun _ _ => rfl, fun b n d t hb => by rw [hf b] at hb; cases hb⟩
/-- A call without arguments, as the evaluator answers. -/
theorem closed (hm : P.follows .mixedOrders = true) {hint : Nat → Bool} {msk : FuncId → Nat} {orc : Orc} {n : Nat} (ho : OrcOK P orc) {f : FuncId} {b : Bool} {H' : Hp}
    (h : callStep P msk orc (ev P hint msk orc n) f [] ⟨0, .leaf⟩ = some (.ret (.bool b) H')) (hen : enterOK P f = true) (w : World) :
    Calls P f #[] w fun e w' => e = .returned (.bool b) ∧ ∀ may, w.keptBut w' may := by
  have hev := ev_ok (P := P) (hint := hint) (msk := msk) ho (fun _ hc => draw_ok hm hc) (fun _ hc => idle_ok hc) n
  have hf : ∀ b, (Hp.mk 0 T.leaf).fn b = .dead := fun b => Hp.fn_of_obj (o := AO.dead) (show T.get AO.dead T.leaf b = some AO.dead from T.get_leaf AO.dead b)
  have := callStep_ok (msk := msk) ho hev f [] ⟨0, .leaf⟩ _ h hen (fun _ => none) w [] .nil (Rep.empty w)
  refine Calls.mono this fun e w' hp => ?_
  obtain ⟨ρ, u, rfl, hv, _, hext⟩ := hp
  refine ⟨by cases hv; rfl, fun may => ⟨hext.os, hext.out, fun i hi => ?_⟩⟩
  rw [(hext.frame i hi fun b r' x hb => by rw [hf b] at hb; exact hb.elim).1]
  split <;> simp_all
end Go.Vex
namespace Go.Vex
variable {P : Program} {ρ : Rho} {H : Hp} {w : World}
/-! ### Slots by a function, for walks by hand -/
abbrev SlF := Nat → Option AV
noncomputable def envF (F : SlF) : Env := fun x => match x with
  | .tmp t => F t
  | .const c => cv c
  | .global _ => none
  | .func f => some (.func f [] [])
def upd (F : SlF) (d : Nat) (v : AV) : SlF := fun t => cond (Nat.beq t d) (some v) (F t)
structure Sl (ρ : Rho) (n : Nat) (F : SlF) (a : Act) : Prop where
  size : a.tmps.size = n
  rel : ∀ t v, F t = some v → RV ρ v (a.tmps.getD t undef)
theorem Sl.env {n : Nat} {F : SlF} {a : Act} (h : Sl ρ n F a) : EnvR ρ (envF F) a.eval := by
  intro x v hx
  cases x with
  | tmp t => exact h.rel t v hx
  | const c => exact cv_flat hx ρ
  | global g => cases hx
  | func f => injection hx with hx; subst hx; exact .func (va := []) (vc := []) .nil .nil
theorem Sl.mono {ρ' : Rho} {n : Nat} {F : SlF} {a : Act} (hs : ρ.sub ρ') (h : Sl ρ n F a) : Sl ρ' n F a := ⟨h.size, fun t v hv => (h.rel t v hv).mono hs⟩
theorem Sl.put {n : Nat} {F : SlF} {a : Act} (h : Sl ρ n F a) {d : Nat} (hd : d < n) {v : AV} {u : Value} (hv : RV ρ v u) : Sl ρ n (upd F d v) (a.put (some d) u) := by
  refine ⟨put_size.trans h.size, fun t x hx => ?_⟩
  unfold upd at hx
  by_cases e : t = d
  · subst e
    rw [Nat.beq_refl] at hx
    have hx : some v = some x := hx
    injection hx with hx; subst hx
    rw [put_at (by rw [h.size]; exact hd)]; exact hv
  · have hb : Nat.beq t d = false := by cases hb : Nat.beq t d with | false => rfl | true => exact absurd (beq_eq hb) e
    rw [hb] at hx
    rw [put_getD_ne t (by intro e'; injection e' with e'; exact e e'.symm)]
    exact h.rel t x hx
/-- A slot of which nothing is known. -/
theorem Sl.put_any {n : Nat} {F : SlF} {a : Act} (h : Sl ρ n F a) {d : Nat} (hd : d < n) (u : Value) : Sl ρ n (upd F d .any) (a.put (some d) u) := h.put hd (.any u)
theorem Sl.less {n : Nat} {F G : SlF} {a : Act} (h : Sl ρ n F a) (hg : ∀ t v, G t = some v → F t = some v) : Sl ρ n G a := ⟨h.size, fun t v hv => h.rel t v (hg t v hv)⟩
theorem put_defers {a : Act} {t : Option Tmp} {u : Value} : (a.put t u).defers = a.defers := by cases t <;> rfl
section
variable {ops : Array Oper} {Q : Exit → Act → World → Prop} {i : Nat} {rest : List Nat} {a : Act} {n : Nat} {F : SlF}
/-- A quiet operation. -/
theorem step_q (o : Oper) (d : Nat) (v : AV) (ho : ops[i]? = some o) (hg : o.guard = none) (hd : o.dst = some d) (hdn : d < n) (hS : Sl ρ n F a) (hrep : Rep ρ H w) (hq : Go.Vex.quiet o.op = true)
    (hop : opA P o.op (envF F) H = some (.val v H)) (hk : ∀ a', Sl ρ n (upd F d v) a' → a'.defers = a.defers → (∀ t, t ≠ d → a'.tmps.getD t undef = a.tmps.getD t undef) → wpOps P ops Q rest a' w) : wpOps P ops Q (i :: rest) a w := by
  obtain ⟨v', u, e, hrun, hv⟩ := quiet_ok (P := P) (w := w) hrep hS.env hq hop
  injection e with e; subst e
  refine wpOps_one ho hg hrun ?_
  rw [hd]
  exact hk _ (hS.put hdn hv) rfl fun t ht => put_getD_ne t (by intro e'; injection e' with e'; exact ht e'.symm)
/-- An operation with a value. -/
theorem step_v (o : Oper) (d : Nat) (v : AV) (H' : Hp) (ho : ops[i]? = some o) (hg : o.guard = none) (hd : o.dst = some d) (hdn : d < n) (hS : Sl ρ n F a) (hrep : Rep ρ H w)
    (hop : opA P o.op (envF F) H = some (.val v H')) (hk : ∀ ρ' a' w', Rep ρ' H' w' → Ext ρ H w ρ' H' w' → Sl ρ' n (upd F d v) a' → a'.defers = a.defers → (∀ t, t ≠ d → a'.tmps.getD t undef = a.tmps.getD t undef) → wpOps P ops Q rest a' w') : wpOps P ops Q (i :: rest) a w := by
  obtain ⟨ρ', w', u, hrun, hr, hext, hv⟩ := opA_ok (P := P) (w := w) hrep hS.env hop
  rw [wpOps_cons]
  unfold wpOp
  have hw : Region.wanted o (yielded ops a.tmps) = true := by unfold Region.wanted; rw [hg]
  simp only [ho, hw, if_true]
  left
  unfold Oper.wp
  rw [hrun]
  show wpOps P ops Q rest (a.put o.dst u) w'
  rw [hd]
  exact hk ρ' _ w' hr hext ((hS.mono hext.sub).put hdn hv) rfl fun t ht => put_getD_ne t (by intro e'; injection e' with e'; exact ht e'.symm)
/-- A store. -/
theorem step_s (o : Oper) (H' : Hp) (ho : ops[i]? = some o) (hg : o.guard = none) (hd : o.dst = none) (hS : Sl ρ n F a) (hrep : Rep ρ H w)
    (hop : opA P o.op (envF F) H = some (.skip H')) (hk : ∀ ρ' w', Rep ρ' H' w' → Ext ρ H w ρ' H' w' → Sl ρ' n F a → wpOps P ops Q rest a w') : wpOps P ops Q (i :: rest) a w := by
  obtain ⟨ρ', w', hrun, hr, hext⟩ := opA_ok (P := P) (w := w) hrep hS.env hop
  rw [wpOps_cons]
  unfold wpOp
  have hw : Region.wanted o (yielded ops a.tmps) = true := by unfold Region.wanted; rw [hg]
  simp only [ho, hw, if_true]
  left
  unfold Oper.wp
  rw [hrun]
  show wpOps P ops Q rest (a.put o.dst undef) w'
  rw [hd]
  exact hk ρ' w' hr hext (hS.mono hext.sub)
end
/-! ### What operations give -/
section
variable {e : Env}
theorem hop_field {s : TypeId} {x : Operand} {f k b o : Nat} (hf : fieldSz P s f = some (k, 1)) (hx : e x = some (.ptr b o)) : opA P (.fieldAddr s x f) e H = some (.val (.ptr b (o + k)) H) := by
  show ob (fieldSz P s f) _ = _
  rw [hf]
  show ob (e x) _ = _
  rw [hx]; rfl
theorem hop_load {t : TypeId} {x : Operand} {b o : Nat} {v : AV} (ht : tyA P t = some (false, 1)) (hx : e x = some (.ptr b o)) (hl : H.load1 b o = some v) : opA P (.load t x) e H = some (.val v H) := by
  show ob (tyA P t) _ = _
  rw [ht]
  show ob (e x) _ = _
  rw [hx]
  show ob (H.load1 b o) _ = _
  rw [hl]; rfl
theorem hop_len {t el : TypeId} {x : Operand} {b o n : Nat} {c : Cap} (ht : P.underlying t = some (.slice el)) (hx : e x = some (.slice b o n c)) : opA P (.call ⟨.builtin .len, ⟨[x]⟩, ⟨[t]⟩⟩) e H = some (.val (.int .i64 (.ofNat n)) H) := by
  show ob (ob (e x) fun y => ob (some []) fun r => some (y :: r)) _ = _
  rw [hx]
  show ob (P.underlying t) _ = _
  rw [ht]; rfl
theorem hop_make {t el : TypeId} {x : Operand} {n : Nat} {i : TypeInfo} {z : List AV} {r : List AV} {o : AO} {H' : Hp} (ht : elemOf P t = some el) (hi : P.info? el = some i) (hz : zeroCells P el = some z) (hzl : z.length = i.size) (hz1 : z.length ≠ 1) (hx : e x = some (.int .i64 (.ofNat n)))
    (hn : n ≤ 1048576) (hib : i.bytes ≤ 65536) (hr : rowOf z n = some r) (ho : ofList r = some o) (ha : H.alloc o = some H') : opA P (.makeSlice t x x) e H = some (.val (.slice H.next 0 n (.fix n)) H') := by
  show ob (elemOf P t) _ = _
  rw [ht]
  show ob (P.info? el) _ = _
  rw [hi]
  show ob (zeroCells P el) _ = _
  rw [hz]
  show iteB (Nat.beq (lenL z 0) i.size) _ _ = _
  rw [lenL_zero, hzl, Nat.beq_refl, iteB_true, hx]
  show iteB (Nat.ble n n) (iteB (Nat.ble n 1048576) (iteB (Nat.ble i.bytes 65536) (makeRow H z n n) none) none) none = _
  have h1 : Nat.ble n n = true := by rw [Nat.ble_eq]; omega
  have h2 : Nat.ble n 1048576 = true := by rw [Nat.ble_eq]; omega
  have h3 : Nat.ble i.bytes 65536 = true := by rw [Nat.ble_eq]; omega
  rw [h1, h2, h3]
  show makeRow H z n n = _
  have : makeRow H z n n = ob (rowOf z n) fun r => ob (ofList r) fun o => allocV H o (.slice H.next 0 n (.fix n)) := by
    match z, hz1 with
    | [], _ => rfl
    | [d], h => exact absurd rfl h
    | _ :: _ :: _, _ => rfl
  rw [this, hr]
  show ob (ofList r) _ = _
  rw [ho]
  show ob (H.alloc o) _ = _
  rw [ha]; rfl
theorem hop_copy {t t2 el : TypeId} {x y : Operand} {b o n b2 o2 sz : Nat} {c c2 : Cap} {cs : List AV} {H' : Hp} (ht : elemOf P t = some el) (hsz : size P el = some sz) (hx : e x = some (.slice b o n c)) (hy : e y = some (.slice b2 o2 n c2))
    (hl : H.loadN b2 o2 (n * sz) = some cs) (hs : H.storeN b o cs = some H') : opA P (.call ⟨.builtin .copy, ⟨[x, y]⟩, ⟨[t, t2]⟩⟩) e H = some (.val (.int .i64 (.ofNat n)) H') := by
  show ob (ob (e x) fun y' => ob (ob (e y) fun z => ob (some []) fun r => some (z :: r)) fun r => some (y' :: r)) _ = _
  rw [hx, hy]
  show ob (elemOf P t) _ = _
  rw [ht]
  show ob (size P el) _ = _
  rw [hsz]
  show ob (iteB (Nat.ble (Nat.min n n) n) (H.loadN b2 o2 (Nat.mul (Nat.min n n) sz)) none) (fun cs => copyTo H (Nat.min n n) cs (.slice b o n c)) = _
  have hm : Nat.min n n = n := Nat.min_self n
  have h1 : Nat.ble n n = true := by rw [Nat.ble_eq]; omega
  rw [hm, h1]
  show ob (H.loadN b2 o2 (n * sz)) _ = _
  rw [hl]
  show ob (H.storeN b o cs) _ = _
  rw [hs]; rfl
theorem hop_index {t : TypeId} {x y : Operand} {sz b o n i : Nat} {c : Cap} {k : IntKind} (ht : ixKind P t = some (.slc sz)) (hx : e x = some (.slice b o n c)) (hy : e y = some (.int k (.ofNat i))) (hi : i < n) : opA P (.indexAddr t x y) e H = some (.val (.ptr b (o + i * sz)) H) := by
  show ob (ixKind P t) _ = _
  rw [ht]
  show ob (e x) _ = _
  rw [hx]
  show ob (e y) _ = _
  rw [hy]
  show iteB (Nat.blt i n) _ _ = _
  have : Nat.blt i n = true := by rw [blt_dec]; simp [hi]
  rw [this]; rfl
theorem hop_store {t : TypeId} {x y : Operand} {b o : Nat} {v : AV} {H' : Hp} (ht : size P t = some 1) (hx : e x = some (.ptr b o)) (hy : e y = some v) (hv : v.cells = some [v]) (hs : H.storeN b o [v] = some H') : opA P (.store t x y) e H = some (.skip H') := by
  show ob (size P t) _ = _
  rw [ht]
  show ob (e x) _ = _
  rw [hx]
  show ob (e y) _ = _
  rw [hy]
  show ob v.cells _ = _
  rw [hv]
  show iteB (Nat.beq (lenL [v] 0) 1) (ob (H.storeN b o [v]) _) none = _
  rw [hs]; rfl
end
end Go.Vex
namespace Go.Vex
variable {P : Program} {ρ ρ0 : Rho} {H H0 : Hp} {w w0 : World}
/-! ### A trie takes a value at any small place -/
theorem mkPath_ok {α : Type} (d x : α) : ∀ (f n : Nat), n < f → ∃ t, mkPath d x f n = some t := by
  intro f
  induction f with
  | zero => intro n h; simp at h
  | succ f ih =>
    intro n h
    cases n with
    | zero => exact ⟨_, rfl⟩
    | succ m =>
      have hm : m / 2 < f := by omega
      obtain ⟨t, ht⟩ := ih (m / 2) hm
      have ht' : mkPath d x f (Nat.div m 2) = some t := ht
      rcases Nat.mod_two_eq_zero_or_one m with e | e
      · refine ⟨.node d t .leaf, ?_⟩
        have e : Nat.mod m 2 = 0 := e
        show Nat.rec (motive := fun _ => Option (T α)) (ob (mkPath d x f (Nat.div m 2)) fun t => some (.node d t .leaf)) (fun _ _ => ob (mkPath d x f (Nat.div m 2)) fun t => some (.node d .leaf t)) (Nat.mod m 2) = _
        rw [e, ht']; rfl
      · refine ⟨.node d .leaf t, ?_⟩
        have e : Nat.mod m 2 = 1 := e
        show Nat.rec (motive := fun _ => Option (T α)) (ob (mkPath d x f (Nat.div m 2)) fun t => some (.node d t .leaf)) (fun _ _ => ob (mkPath d x f (Nat.div m 2)) fun t => some (.node d .leaf t)) (Nat.mod m 2) = _
        rw [e, ht']; rfl
theorem T.set_tot {α : Type} (d x : α) : ∀ (t : T α) (n : Nat), ∃ t', t.set d x n = some t' := by
  intro t
  induction t with
  | leaf => intro n; exact mkPath_ok d x (Nat.succ n) n (Nat.lt_succ_self n)
  | node v l r ihl ihr =>
    intro n
    cases n with
    | zero => exact ⟨_, rfl⟩
    | succ m =>
      obtain ⟨t1, h1⟩ := ihl (m / 2)
      obtain ⟨t2, h2⟩ := ihr (m / 2)
      have h1 : l.set d x (Nat.div m 2) = some t1 := h1
      have h2 : r.set d x (Nat.div m 2) = some t2 := h2
      rcases Nat.mod_two_eq_zero_or_one m with e | e
      · refine ⟨.node v t1 r, ?_⟩
        have e : Nat.mod m 2 = 0 := e
        show Nat.rec (motive := fun _ => Option (T α)) (ob (l.set d x (Nat.div m 2)) fun l' => some (.node v l' r)) (fun _ _ => ob (r.set d x (Nat.div m 2)) fun r' => some (.node v l r')) (Nat.mod m 2) = _
        rw [e, h1]; rfl
      · refine ⟨.node v l t2, ?_⟩
        have e : Nat.mod m 2 = 1 := e
        show Nat.rec (motive := fun _ => Option (T α)) (ob (l.set d x (Nat.div m 2)) fun l' => some (.node v l' r)) (fun _ _ => ob (r.set d x (Nat.div m 2)) fun r' => some (.node v l r')) (Nat.mod m 2) = _
        rw [e, h2]; rfl
theorem T.set_ok {α : Type} (d x : α) (t : T α) (n : Nat) (_ : n + 1 < 2 ^ 64) : ∃ t', t.set d x n = some t' := T.set_tot d x t n
theorem storeT_ok {d : AV} : ∀ (vs : List AV) (t : T AV) (i : Nat), i + vs.length + 1 < 2 ^ 64 → ∃ t', storeT d vs t i = some t' := by
  intro vs
  induction vs with
  | nil => intro t i _; exact ⟨t, rfl⟩
  | cons v vs ih =>
    intro t i h
    simp at h
    obtain ⟨t1, h1⟩ := T.set_ok d v t i (by omega)
    obtain ⟨t2, h2⟩ := ih t1 (i + 1) (by omega)
    refine ⟨t2, ?_⟩
    show ob (t.set d v i) (fun t' => storeT d vs t' (Nat.succ i)) = _
    rw [h1]; exact h2
theorem app_ok {α : Type} : ∀ (l k : List α), app l k = some (l ++ k) := by
  intro l
  induction l with
  | nil => intro k; rfl
  | cons x l ih => intro k; show ob (app l k) _ = _; rw [ih]; rfl
theorem rowOf_ok (z : List AV) : ∀ n, ∃ r, rowOf z n = some r ∧ r.length = n * z.length := by
  intro n
  induction n with
  | zero => exact ⟨[], rfl, by simp⟩
  | succ n ih =>
    obtain ⟨r, hr, hl⟩ := ih
    refine ⟨z ++ r, ?_, by simp [hl, Nat.succ_mul]; omega⟩
    show ob (rowOf z n) (fun r => app z r) = _
    rw [hr]; exact app_ok z r
theorem ofList_ok (vs : List AV) (h : vs.length + 1 < 2 ^ 64) : ∃ t, ofList vs = some (.cells vs.length .any t) ∧ ∀ m, t.get .any m = if m < vs.length then vs[m]? else some .any := by
  obtain ⟨t, ht⟩ := storeT_ok (d := .any) vs .leaf 0 (by omega)
  refine ⟨t, ?_, fun m => ?_⟩
  · show ob (storeT .any vs .leaf 0) (fun t => some (AO.cells (lenL vs 0) .any t)) = _
    rw [ht, lenL_zero]; rfl
  · rw [storeT_get vs .leaf t 0 ht m]
    simp
theorem Hp.alloc_ok (H : Hp) (o : AO) (h : H.next + 1 < 2 ^ 64) : ∃ H', H.alloc o = some H' := by
  obtain ⟨t, ht⟩ := T.set_ok .dead o H.t H.next h
  exact ⟨_, by show ob (H.t.set .dead o H.next) _ = _; rw [ht]; rfl⟩
theorem Hp.store_ok {b i n : Nat} {d : AV} {t : T AV} {vs : List AV} (h : H.fn b = .cells n d t) (hi : i + vs.length ≤ n) (hn : n + 1 < 2 ^ 64) (hb : b + 1 < 2 ^ 64) :
    ∃ H' t', H.storeN b i vs = some H' ∧ H'.next = H.next ∧ (∀ c, c ≠ b → H'.fn c = H.fn c) ∧ H'.fn b = .cells n d t' ∧ ∀ m, t'.get d m = if i ≤ m ∧ m < i + vs.length then vs[m - i]? else t.get d m := by
  obtain ⟨t', ht⟩ := storeT_ok (d := d) vs t i (by omega)
  obtain ⟨tr, hp⟩ := T.set_ok .dead (.cells n d t') H.t b hb
  have hput : H.put b (.cells n d t') = some ⟨H.next, tr⟩ := by show ob (H.t.set .dead _ b) _ = _; rw [hp]; rfl
  obtain ⟨h1, h2⟩ := Hp.put_fn hput
  refine ⟨⟨H.next, tr⟩, t', ?_, h1, fun c hc => by rw [h2, if_neg hc], by rw [h2, if_pos rfl], fun m => storeT_get vs t t' i ht m⟩
  show ob (H.obj b) _ = _
  rw [Hp.obj_fn, h]
  show ob (iteB (Nat.ble (Nat.add i (lenL vs 0)) n) (ob (storeT d vs t i) fun t' => some (AO.cells n d t')) none) _ = _
  have : Nat.ble (Nat.add i (lenL vs 0)) n = true := by rw [lenL_zero, Nat.ble_eq]; exact hi
  rw [this, ht]
  exact hput
theorem storeT_tot {d : AV} : ∀ (vs : List AV) (t : T AV) (i : Nat), ∃ t', storeT d vs t i = some t' := by
  intro vs
  induction vs with
  | nil => intro t i; exact ⟨t, rfl⟩
  | cons v vs ih =>
    intro t i
    obtain ⟨t1, h1⟩ := T.set_tot d v t i
    obtain ⟨t2, h2⟩ := ih t1 (i + 1)
    refine ⟨t2, ?_⟩
    show ob (t.set d v i) (fun t' => storeT d vs t' (Nat.succ i)) = _
    rw [h1]; exact h2
theorem ofList_tot (vs : List AV) : ∃ t, ofList vs = some (.cells vs.length .any t) ∧ ∀ m, t.get .any m = if m < vs.length then vs[m]? else some .any := by
  obtain ⟨t, ht⟩ := storeT_tot (d := .any) vs .leaf 0
  refine ⟨t, ?_, fun m => ?_⟩
  · show ob (storeT .any vs .leaf 0) (fun t => some (AO.cells (lenL vs 0) .any t)) = _
    rw [ht, lenL_zero]; rfl
  · rw [storeT_get vs .leaf t 0 ht m]
    simp
theorem Hp.alloc_tot (H : Hp) (o : AO) : ∃ H', H.alloc o = some H' := by
  obtain ⟨t, ht⟩ := T.set_tot .dead o H.t H.next
  exact ⟨_, by show ob (H.t.set .dead o H.next) _ = _; rw [ht]; rfl⟩
theorem Hp.store_tot {H : Hp} {b i n : Nat} {d : AV} {t : T AV} {vs : List AV} (h : H.fn b = .cells n d t) (hi : i + vs.length ≤ n) :
    ∃ H' t', H.storeN b i vs = some H' ∧ H'.next = H.next ∧ (∀ c, c ≠ b → H'.fn c = H.fn c) ∧ H'.fn b = .cells n d t' ∧ storeT d vs t i = some t' ∧ ∀ m, t'.get d m = if i ≤ m ∧ m < i + vs.length then vs[m - i]? else t.get d m := by
  obtain ⟨t', ht⟩ := storeT_tot (d := d) vs t i
  obtain ⟨tr, hp⟩ := T.set_tot .dead (.cells n d t') H.t b
  have hput : H.put b (.cells n d t') = some ⟨H.next, tr⟩ := by show ob (H.t.set .dead _ b) _ = _; rw [hp]; rfl
  obtain ⟨h1, h2⟩ := Hp.put_fn hput
  refine ⟨⟨H.next, tr⟩, t', ?_, h1, fun c hc => by rw [h2, if_neg hc], by rw [h2, if_pos rfl], ht, fun m => storeT_get vs t t' i ht m⟩
  show ob (H.obj b) _ = _
  rw [Hp.obj_fn, h]
  show ob (iteB (Nat.ble (Nat.add i (lenL vs 0)) n) (ob (storeT d vs t i) fun t' => some (AO.cells n d t')) none) _ = _
  have : Nat.ble (Nat.add i (lenL vs 0)) n = true := by rw [lenL_zero, Nat.ble_eq]; exact hi
  rw [this, ht]
  exact hput
/-- A trie for a function. -/
theorem T.make {α : Type} (d : α) (f : Nat → α) : ∀ n, ∃ t : T α, ∀ m, t.get d m = some (if m < n then f m else d) := by
  intro n
  induction n with
  | zero => exact ⟨.leaf, fun m => by simp⟩
  | succ n ih =>
    obtain ⟨t, ht⟩ := ih
    obtain ⟨t', ht'⟩ := T.set_tot d (f n) t n
    refine ⟨t', fun m => ?_⟩
    rw [T.set_get d (f n) t n t' ht' m, ht]
    by_cases e : m = n
    · subst e; simp
    · rw [if_neg e]; congr 1
      by_cases h : m < n
      · rw [if_pos h, if_pos (by omega)]
      · rw [if_neg h, if_neg (by omega)]
/-! ### The new cells, in any order -/
def ValJ (js : List (Nat × Nat × Nat)) (ls : List AV) (ol : Nat) (c : Nat → Option AV) (S : Nat → Prop) (i : Nat) (x : AV) : Prop :=
  (∃ a l b, (a, l, b) ∈ js ∧ S b ∧ a < ol ∧ i = a * 6 + 5 ∧ ls[l]? = some x) ∨ ((∀ a l b, (a, l, b) ∈ js → S b → a < ol → i ≠ a * 6 + 5) ∧ c i = some x)
theorem apartJ_inv {x : Nat × Nat × Nat} : ∀ {r : List (Nat × Nat × Nat)}, apartJ x r = true → ∀ y ∈ r, x.1 ≠ y.1 ∧ x.2.2 ≠ y.2.2 := by
  intro r
  induction r with
  | nil => intro _ y hy; cases hy
  | cons z r ih =>
    intro h y hy
    have h : iteB (Nat.beq x.1 z.1) false (iteB (Nat.beq x.2.2 z.2.2) false (apartJ x r)) = true := h
    cases h1 : Nat.beq x.1 z.1 with
    | true => rw [h1] at h; cases h
    | false =>
      rw [h1] at h
      cases h2 : Nat.beq x.2.2 z.2.2 with
      | true => rw [h2] at h; cases h
      | false =>
        rw [h2] at h
        rcases List.mem_cons.1 hy with rfl | hy
        · exact ⟨beq_ne h1, beq_ne h2⟩
        · exact ih h y hy
theorem jsOK_inv {cl : Nat} : ∀ {js : List (Nat × Nat × Nat)}, jsOK cl js = true → (∀ x ∈ js, x.2.2 < cl) ∧ js.Pairwise fun x y => x.1 ≠ y.1 ∧ x.2.2 ≠ y.2.2 := by
  intro js
  induction js with
  | nil => intro _; exact ⟨by simp, .nil⟩
  | cons x r ih =>
    intro h
    have h : iteB (Nat.blt x.2.2 cl) (iteB (apartJ x r) (jsOK cl r) false) false = true := h
    cases h1 : Nat.blt x.2.2 cl with
    | false => rw [h1] at h; cases h
    | true =>
      rw [h1] at h
      cases h2 : apartJ x r with
      | false => rw [h2] at h; cases h
      | true =>
        rw [h2] at h
        obtain ⟨i1, i2⟩ := ih h
        refine ⟨fun y hy => ?_, List.pairwise_cons.2 ⟨apartJ_inv h2, i2⟩⟩
        rcases List.mem_cons.1 hy with rfl | hy
        · exact blt_lt h1
        · exact i1 y hy
theorem pair_eq {js : List (Nat × Nat × Nat)} (hp : js.Pairwise fun x y => x.1 ≠ y.1 ∧ x.2.2 ≠ y.2.2) : ∀ {x y}, x ∈ js → y ∈ js → (x.1 = y.1 ∨ x.2.2 = y.2.2) → x = y := by
  induction hp with
  | nil => intro x y hx; cases hx
  | cons h _ ih =>
    intro x y hx hy he
    rcases List.mem_cons.1 hx with rfl | hx1
    · rcases List.mem_cons.1 hy with rfl | hy1
      · rfl
      · have := h y hy1; rcases he with e | e <;> simp_all
    · rcases List.mem_cons.1 hy with rfl | hy1
      · have := h x hx1; rcases he with e | e
        · exact absurd e.symm this.1
        · exact absurd e.symm this.2
      · exact ih hx1 hy1 he
section
variable {js : List (Nat × Nat × Nat)} {ls : List AV} {ol : Nat} {c : Nat → Option AV} {S : Nat → Prop}
theorem ValJ.fn (hp : js.Pairwise fun x y => x.1 ≠ y.1 ∧ x.2.2 ≠ y.2.2) {i : Nat} {x y : AV} (hx : ValJ js ls ol c S i x) (hy : ValJ js ls ol c S i y) : x = y := by
  rcases hx with ⟨a, l, b, h1, h2, h3, h4, h5⟩ | ⟨h1, h2⟩
  · rcases hy with ⟨a', l', b', g1, g2, g3, g4, g5⟩ | ⟨g1, g2⟩
    · have := pair_eq hp h1 g1 (.inl (by show a = a'; omega))
      simp only [Prod.mk.injEq] at this
      obtain ⟨rfl, rfl, rfl⟩ := this
      rw [h5] at g5; exact Option.some.inj g5
    · exact absurd h4 (g1 a l b h1 h2 h3)
  · rcases hy with ⟨a', l', b', g1, g2, g3, g4, g5⟩ | ⟨g1, g2⟩
    · exact absurd g4 (h1 a' l' b' g1 g2 g3)
    · rw [h2] at g2; exact Option.some.inj g2
theorem ValJ.store (hp : js.Pairwise fun x y => x.1 ≠ y.1 ∧ x.2.2 ≠ y.2.2) {a l b : Nat} (hm : (a, l, b) ∈ js) (ha : a < ol) {v : AV} (hl : ls[l]? = some v) {i : Nat} {x : AV} (h : ValJ js ls ol c S i x) :
    ValJ js ls ol c (fun b' => S b' ∨ b' = b) i (if i = a * 6 + 5 then v else x) := by
  by_cases e : i = a * 6 + 5
  · rw [if_pos e]; exact .inl ⟨a, l, b, hm, .inr rfl, ha, e, hl⟩
  · rw [if_neg e]
    rcases h with ⟨a', l', b', h1, h2, h3⟩ | ⟨h1, h2⟩
    · exact .inl ⟨a', l', b', h1, .inl h2, h3⟩
    · refine .inr ⟨fun a' l' b' g1 g2 g3 g4 => ?_, h2⟩
      rcases g2 with g2 | rfl
      · exact h1 a' l' b' g1 g2 g3 g4
      · have := pair_eq hp hm g1 (.inr rfl)
        simp only [Prod.mk.injEq] at this
        obtain ⟨rfl, _⟩ := this
        exact e g4
theorem ValJ.skip (hp : js.Pairwise fun x y => x.1 ≠ y.1 ∧ x.2.2 ≠ y.2.2) {a l b : Nat} (hm : (a, l, b) ∈ js) (ha : ¬ a < ol) {i : Nat} {x : AV} (h : ValJ js ls ol c S i x) : ValJ js ls ol c (fun b' => S b' ∨ b' = b) i x := by
  rcases h with ⟨a', l', b', h1, h2, h3⟩ | ⟨h1, h2⟩
  · exact .inl ⟨a', l', b', h1, .inl h2, h3⟩
  · refine .inr ⟨fun a' l' b' g1 g2 g3 g4 => ?_, h2⟩
    rcases g2 with g2 | rfl
    · exact h1 a' l' b' g1 g2 g3 g4
    · have := pair_eq hp hm g1 (.inr rfl)
      simp only [Prod.mk.injEq] at this
      obtain ⟨rfl, _⟩ := this
      exact ha g3
def CellsJ (js : List (Nat × Nat × Nat)) (ls : List AV) (ol : Nat) (c : Nat → Option AV) (S : Nat → Prop) (n : Nat) (d : AV) (t : T AV) : Prop := ∀ i, i < n → ∃ x, t.get d i = some x ∧ ValJ js ls ol c S i x
theorem CellsJ.iff {n : Nat} {d : AV} {t : T AV} {S' : Nat → Prop} (h : CellsJ js ls ol c S n d t) (he : ∀ x ∈ js, S x.2.2 ↔ S' x.2.2) : CellsJ js ls ol c S' n d t := by
  intro i hi
  obtain ⟨x, h1, h2⟩ := h i hi
  refine ⟨x, h1, ?_⟩
  rcases h2 with ⟨a, l, b, g1, g2, g3⟩ | ⟨g1, g2⟩
  · exact .inl ⟨a, l, b, g1, (he _ g1).1 g2, g3⟩
  · exact .inr ⟨fun a l b k1 k2 => g1 a l b k1 ((he _ k1).2 k2), g2⟩
theorem ValJ.iffS {S' : Nat → Prop} {i : Nat} {x : AV} (h : ValJ js ls ol c S i x) (he : ∀ x ∈ js, S x.2.2 ↔ S' x.2.2) : ValJ js ls ol c S' i x := by
  rcases h with ⟨a, l, b, g1, g2, g3⟩ | ⟨g1, g2⟩
  · exact .inl ⟨a, l, b, g1, (he _ g1).1 g2, g3⟩
  · exact .inr ⟨fun a l b k1 k2 => g1 a l b k1 ((he _ k1).2 k2), g2⟩
theorem orcJ_cells (hp : js.Pairwise fun x y => x.1 ≠ y.1 ∧ x.2.2 ≠ y.2.2) {n : Nat} {d : AV} : ∀ (k : List (Nat × Nat × Nat)) (t : T AV) (o : AO) (S : Nat → Prop), orcJ ls ol k (.cells n d t) = some o → (∀ x ∈ k, x ∈ js) → CellsJ js ls ol c S n d t →
    (∃ t', o = .cells n d t' ∧ CellsJ js ls ol c (fun b => S b ∨ ∃ x ∈ k, x.2.2 = b) n d t') ∧ ∀ x ∈ k, x.1 < ol → x.1 * 6 + 5 < n ∧ ∃ q m, ls[x.2.1]? = some (.int q m) := by
  intro k
  induction k with
  | nil =>
    intro t o S h _ hc
    have h : some (AO.cells n d t) = some o := h
    injection h with h; subst h
    exact ⟨⟨t, rfl, hc.iff (by simp)⟩, by simp⟩
  | cons x k ih =>
    obtain ⟨a, l, b⟩ := x
    intro t o S h hk hc
    have h : iteB (Nat.blt a ol) (ob (nth ls l) fun v => ob v.asInt fun _ => ob ((AO.cells n d t).storeN (Nat.add (Nat.mul a 6) 5) [v]) (orcJ ls ol k)) (orcJ ls ol k (.cells n d t)) = some o := h
    have hm := hk _ List.mem_cons_self
    cases hb : Nat.blt a ol with
    | false =>
      rw [hb] at h
      have hna := blt_ge hb
      obtain ⟨⟨t', h1, h2⟩, h3⟩ := ih t o _ h (fun x hx => hk x (List.mem_cons_of_mem _ hx)) (fun i hi => let ⟨x, q1, q2⟩ := hc i hi; ⟨x, q1, q2.skip hp hm (by omega)⟩)
      refine ⟨⟨t', h1, h2.iff fun y hy => ?_⟩, fun y hy => ?_⟩
      · simp [or_assoc, eq_comm]
      · rcases List.mem_cons.1 hy with rfl | hy
        · intro e; simp only at e; omega
        · exact h3 y hy
    | true =>
      rw [hb] at h
      obtain ⟨v, hv, h⟩ := ob_some (x := nth ls l) h
      obtain ⟨q, hq, h⟩ := ob_some h
      obtain ⟨o1, ho1, h⟩ := ob_some h
      have ho1 : iteB (Nat.ble (Nat.add (Nat.add (Nat.mul a 6) 5) (lenL [v] 0)) n) (ob (storeT d [v] t (Nat.add (Nat.mul a 6) 5)) fun t' => some (AO.cells n d t')) none = some o1 := ho1
      obtain ⟨hle, ho1⟩ := iteB_some ho1
      obtain ⟨t1, ht1, ho1⟩ := ob_some ho1
      injection ho1 with ho1; subst ho1
      have hle : a * 6 + 5 + 1 ≤ n := ble_le hle
      rw [nth_eq] at hv
      have hget := storeT_get [v] t t1 _ ht1
      have ha := blt_lt hb
      obtain ⟨⟨t', h1, h2⟩, h3⟩ := ih t1 o (fun b' => S b' ∨ b' = b) h (fun x hx => hk x (List.mem_cons_of_mem _ hx)) (fun i hi => by
        obtain ⟨x, q1, q2⟩ := hc i hi
        refine ⟨_, ?_, q2.store hp hm ha hv⟩
        rw [hget]
        by_cases e : i = a * 6 + 5
        · rw [if_pos e, if_pos (by subst e; exact ⟨Nat.le_refl _, Nat.lt_succ_self _⟩)]
          subst e
          simp
        · rw [if_neg e, if_neg (by intro ⟨e1, e2⟩; apply e; have e1 : a * 6 + 5 ≤ i := e1; have e2 : i < a * 6 + 5 + 1 := e2; omega)]
          exact q1)
      refine ⟨⟨t', h1, h2.iff fun y hy => ?_⟩, fun y hy => ?_⟩
      · simp [or_assoc, eq_comm]
      · rcases List.mem_cons.1 hy with rfl | hy
        · intro _
          refine ⟨by simp only; omega, ?_⟩
          cases v with
          | int k m => exact ⟨k, m, hv⟩
          | _ => cases hq
        · exact h3 y hy
end
end Go.Vex
namespace Go.Vex
open Go.ChangeMaps (setBlock)
variable {P : Program} {ρ ρ0 : Rho} {H H0 : Hp} {w w0 : World}
/-! ### A map is ranged over -/
theorem wpOps_w {ops : Array Oper} {Q : Exit → Act → World → Prop} {a : Act} {o : Oper} {i : Nat} {rest : List Nat} {u : Value} {w' : World} (ho : ops[i]? = some o) (hg : o.guard = none) (hrun : (execOp a.eval o).run P w = .ok (.value u) w') (hk : wpOps P ops Q rest (a.put o.dst u) w') : wpOps P ops Q (i :: rest) a w := by
  rw [wpOps_cons]
  unfold wpOp
  have hw : Region.wanted o (yielded ops a.tmps) = true := by unfold Region.wanted; rw [hg]
  simp only [ho, hw, if_true]
  left
  unfold Oper.wp
  rw [hrun]
  exact hk
theorem range_run {σ : Operand → Value} {o : Oper} {t k e : TypeId} {x : Operand} (ho : o.op = .range t x) {b : Nat} {es : Array MapEntry} {cl : Nat} (hx : σ x = .map (some b)) (ht : P.underlying t = some (.map k e)) (hb : w.heap[b]? = some (.map es cl)) :
    (execOp σ o).run P w = .ok (.value (.pointer (some ⟨w.heap.size, 0, none⟩))) (World.new w (.mapIter (some b) cl #[] cl)) := by
  unfold execOp
  simp only [ho, hx, Sem.run_bind, run_range_map w t k e b es cl ht hb]
  rfl
theorem next_run {σ : Operand → Value} {o : Oper} {x : Operand} (ho : o.op = .next x false) {r : Nat} (hx : σ x = .pointer (some ⟨r, 0, none⟩)) {u : Value} {w' : World} (h : (Instr.next (.pointer (some ⟨r, 0, none⟩)) false o.type).run P w = .ok u w') : (execOp σ o).run P w = .ok (.value u) w' := by
  unfold execOp
  simp only [ho, hx, Sem.run_bind, h]
  rfl
theorem entry_run {σ : Operand → Value} {o : Oper} {x : Operand} (ho : o.op = .entry x) {r : Nat} (hx : σ x = .pointer (some ⟨r, 0, none⟩)) {u : Value} {w' : World} (h : (Instr.entry (.pointer (some ⟨r, 0, none⟩))).run P w = .ok u w') : (execOp σ o).run P w = .ok (.value u) w' := by
  unfold execOp
  simp only [ho, hx, Sem.run_bind, h]
  rfl
theorem Rep.setU (h : Rep ρ H w) {r : Nat} (hu : Un ρ H r) (hnc : ∀ c el fz, w.heap[r]? ≠ some (.cells c el fz)) (o : Obj) : Rep ρ H (setBlock w r o) := by
  refine ⟨fun b hb => ?_, h.inj, h.nxt, fun b n d t hb => ?_⟩
  rotate_left
  · obtain ⟨r', base, e, h1, h4⟩ := h.rd b n d t hb
    refine ⟨r', base, e, h1, fun hn => ?_⟩
    obtain ⟨c, el, fz, h2, h3⟩ := h4 hn
    have hne : r' ≠ r := by intro e; subst e; exact hnc _ _ _ h2
    refine ⟨c, el, fz, ?_, h3⟩
    simp only [setBlock, Array.getElem?_setIfInBounds_ne (Ne.symm hne)]
    exact h2
  obtain ⟨r', base, e, ob, h1, h2, h3⟩ := h.live b hb
  have hne : r' ≠ r := hu b r' _ hb h1
  refine ⟨r', base, e, ob, h1, ?_, h3⟩
  simp only [setBlock, Array.getElem?_setIfInBounds_ne (Ne.symm hne)]
  exact h2
theorem Ext.setU (h : Ext ρ0 H0 w0 ρ H w) {r : Nat} (hr : w0.heap.size ≤ r) (o : Obj) : Ext ρ0 H0 w0 ρ H (setBlock w r o) := by
  refine ⟨h.sub, h.next, by simp only [setBlock, Array.size_setIfInBounds]; exact h.size, fun r' hr' hu => ?_, h.os, h.out, h.ros⟩
  obtain ⟨h1, h2⟩ := h.frame r' hr' hu
  have hne : r ≠ r' := by omega
  refine ⟨?_, h2⟩
  simp only [setBlock, Array.getElem?_setIfInBounds_ne hne]
  exact h1
theorem set_get {r : Nat} {o : Obj} (h : r < w.heap.size) : (setBlock w r o).heap[r]? = some o := by simp [setBlock, h]
theorem set_get_ne {r r' : Nat} {o : Obj} (h : r' ≠ r) : (setBlock w r o).heap[r']? = w.heap[r']? := by simp [setBlock, Array.getElem?_setIfInBounds_ne (Ne.symm h)]
/-- The heap is told in another way. -/
theorem Rep.swap (h : Rep ρ H w) {H' : Hp} {l n : Nat} {d : AV} {t t' : T AV} (hn : H'.next = H.next) (ho : ∀ b, b ≠ l → H'.fn b = H.fn b) (h1 : H.fn l = .cells n d t) (h2 : H'.fn l = .cells n d t') (ht : ∀ i, i < n → t.get d i = t'.get d i) : Rep ρ H' w := by
  have hd : ∀ b, Lv (H'.fn b) → Lv (H.fn b) := by
    intro b hb
    by_cases e : b = l
    · subst e; rw [h1]; simp
    · rw [← ho b e]; exact hb
  have hro : ∀ b n d t, H'.fn b = .ro n d t → H.fn b = .ro n d t := by
    intro b n1 d1 t1 hb
    by_cases e : b = l
    · subst e; rw [h2] at hb; cases hb
    · rw [← ho b e]; exact hb
  have hext : Ext ρ H w ρ H' w := ⟨ρ.sub_refl, by omega, Nat.le_refl _, fun r _ hu => ⟨rfl, fun b r' x hb => hu b r' x (hd b hb)⟩, rfl, rfl, hro⟩
  refine ⟨fun b hb => ?_, fun b b' r x r' x' hb hb' => h.inj b b' r x r' x' (hd b hb) (hd b' hb'), fun b hb => h.nxt b (by omega), h.rdx hext⟩
  obtain ⟨r, base, e, ob, g1, g2, g3⟩ := h.live b (hd b hb)
  refine ⟨r, base, e, ob, g1, g2, ?_⟩
  by_cases eb : b = l
  · subst eb
    rw [h2]; rw [h1] at g3
    cases g3 with
    | cells q1 q2 q3 q4 => exact .cells q1 q2 (fun i hi => let ⟨a, v, z1, z2⟩ := q3 i hi; ⟨a, v, (ht i hi).symm.trans z1, z2⟩) q4
  · rw [ho b eb]; exact g3
theorem Ext.swap (h : Ext ρ0 H0 w0 ρ H w) {H' : Hp} (hn : H'.next = H.next) (ho : ∀ b, Lv (H'.fn b) → Lv (H.fn b)) (hro : ∀ b n d t, H'.fn b = .ro n d t → H.fn b = .ro n d t) : Ext ρ0 H0 w0 ρ H' w :=
  ⟨h.sub, by rw [hn]; exact h.next, h.size, fun r hr hu => ⟨(h.frame r hr hu).1, fun b r' x hb => (h.frame r hr hu).2 b r' x (ho b hb)⟩, h.os, h.out, fun b n d t hb => h.ros b n d t (hro b n d t hb)⟩
theorem load1_fn {H H' : Hp} {b i : Nat} (h : H'.fn b = H.fn b) : H'.load1 b i = H.load1 b i := by
  unfold Hp.load1
  rw [Hp.obj_fn, Hp.obj_fn, h]
theorem loadN_fn {H H' : Hp} {b i k : Nat} (h : H'.fn b = H.fn b) : H'.loadN b i k = H.loadN b i k := by
  unfold Hp.loadN
  rw [Hp.obj_fn, Hp.obj_fn, h]
theorem load1_lt (h : Rep ρ H w) {b i : Nat} {v : AV} (hl : H.load1 b i = some v) : b < H.next := by
  obtain ⟨n, d, t, h1, _⟩ := load1_inv hl
  rcases h1 with h1 | h1
  · exact h.lt (by rw [h1]; simp)
  · obtain ⟨_, _, _, h2, _⟩ := h.rd b n d t h1
    exact h.rho_lt h2
theorem loadN_get {b i k : Nat} {vs : List AV} (h : H.loadN b i k = some vs) {j : Nat} {v : AV} (hv : vs[j]? = some v) : H.load1 b (i + j) = some v := by
  obtain ⟨o, ho, h1⟩ := ob_some h
  cases o with
  | cells n d t =>
    obtain ⟨hb, h2⟩ := iteB_some (b := Nat.ble (Nat.add i k) n) h1
    have hb : i + k ≤ n := ble_le hb
    obtain ⟨h3, h4⟩ := loadT_get k i vs h2
    have hj : j < k := by have := lt_of_get hv; omega
    show ob (H.obj b) _ = _
    rw [ho]
    show iteB (Nat.blt (i + j) n) (t.get d (i + j)) none = _
    have : Nat.blt (i + j) n = true := by rw [blt_dec]; simp; omega
    rw [this]
    exact h4 j v hv
  | ro n d t =>
    obtain ⟨hb, h2⟩ := iteB_some (b := Nat.ble (Nat.add i k) n) h1
    have hb : i + k ≤ n := ble_le hb
    obtain ⟨h3, h4⟩ := loadT_get k i vs h2
    have hj : j < k := by have := lt_of_get hv; omega
    show ob (H.obj b) _ = _
    rw [ho]
    show iteB (Nat.blt (i + j) n) (t.get d (i + j)) none = _
    have : Nat.blt (i + j) n = true := by rw [blt_dec]; simp; omega
    rw [this]
    exact h4 j v hv
  | _ => cases h1
theorem All2.get2 {α β : Type} {R : α → β → Prop} {l : List α} {k : List β} (h : All2 R l k) : ∀ b ∈ k, ∃ a ∈ l, R a b := by
  induction h with
  | nil => intro b hb; cases hb
  | cons p _ ih =>
    intro b hb
    rcases List.mem_cons.1 hb with rfl | hb
    · exact ⟨_, by simp, p⟩
    · obtain ⟨a, ha, hr⟩ := ih b hb; exact ⟨a, List.mem_cons_of_mem _ ha, hr⟩
theorem entNat_inv {e : Ent} {x : Nat × Nat × Nat} (h : entNat e = some x) : e = (.int .i64 (x.1 : Int), .int .i64 (x.2.1 : Int), x.2.2) := by
  obtain ⟨a, ha, h⟩ := ob_some h
  obtain ⟨l, hl, h⟩ := ob_some h
  injection h with h; subst h
  obtain ⟨k, v, n⟩ := e
  have f : ∀ {v : AV} {a : Nat}, asI64 v = some a → v = .int .i64 (a : Int) := by
    intro v a h
    unfold asI64 at h
    split at h
    · rw [intNat_inv h]
    · cases h
  have h1 := f ha
  have h2 := f hl
  simp only at h1 h2
  subst h1; subst h2
  rfl
def EntR (x : Nat × Nat × Nat) (m : MapEntry) : Prop := m.key = .int .i64 (x.1 : Int) ∧ m.val = .int .i64 (x.2.1 : Int) ∧ m.born = x.2.2
/-- A real map's entries, and the numbers that stand for them. -/
theorem ents_rel {es : List Ent} {js : List (Nat × Nat × Nat)} (hj : mapO entNat es = some js) : ∀ {ces : List MapEntry}, All2 (REnt ρ) es ces → All2 EntR js ces := by
  have h1 := mapO_some _ _ hj
  clear hj
  induction h1 with
  | nil => intro ces h; cases h; exact .nil
  | cons p _ ih =>
    intro ces h
    cases h with
    | cons q qs =>
      have := entNat_inv p
      subst this
      obtain ⟨q1, q2, q3⟩ := q
      exact .cons ⟨q1.int_inv, q2.int_inv, q3⟩ (ih qs)
theorem born_map {js : List (Nat × Nat × Nat)} {ces : List MapEntry} (h : All2 EntR js ces) : ces.map (·.born) = js.map (·.2.2) := by
  induction h with
  | nil => rfl
  | cons p _ ih => simp [ih, p.2.2]
theorem All2.get1 {α β : Type} {R : α → β → Prop} {l : List α} {k : List β} (h : All2 R l k) : ∀ a ∈ l, ∃ b ∈ k, R a b := by
  induction h with
  | nil => intro b hb; cases hb
  | cons p _ ih =>
    intro b hb
    rcases List.mem_cons.1 hb with rfl | hb
    · exact ⟨_, by simp, p⟩
    · obtain ⟨a, ha, hr⟩ := ih b hb; exact ⟨a, List.mem_cons_of_mem _ ha, hr⟩
theorem filter_push {js : List (Nat × Nat × Nat)} {seen : Array Nat} {x : Nat × Nat × Nat} (hx : x ∈ js) (hn : x.2.2 ∉ seen) : (js.filter fun y => !(seen.push x.2.2).contains y.2.2).length < (js.filter fun y => !seen.contains y.2.2).length := by
  induction js with
  | nil => cases hx
  | cons y js ih =>
    have hle : ∀ l : List (Nat × Nat × Nat), (l.filter fun y => !(seen.push x.2.2).contains y.2.2).length ≤ (l.filter fun y => !seen.contains y.2.2).length := by
      intro l
      induction l with
      | nil => simp
      | cons z l ih =>
        simp only [List.filter_cons]
        by_cases hz : z.2.2 ∈ seen
        · simp [hz]; simpa using ih
        · by_cases e : z.2.2 = x.2.2
          · simp [e, hn]; simpa using Nat.le_succ_of_le ih
          · simp [hz, e]; simpa using ih
    simp only [List.filter_cons]
    rcases List.mem_cons.1 hx with rfl | hx
    · simp [hn]
      have := hle js
      simp at this
      omega
    · have := ih hx
      by_cases hz : y.2.2 ∈ seen
      · simp [hz]; simpa using this
      · by_cases e : y.2.2 = x.2.2
        · simp [e, hn]; simp at this; omega
        · simp [hz, e]; simpa using this
theorem RV.map_inv {b : Nat} {u : Value} (h : RV ρ (.map b) u) : ∃ r x, ρ b = some (r, x) ∧ u = .map (some r) := by cases h with | map h1 => exact ⟨_, _, h1, rfl⟩
theorem RV.bool_inv {b : Bool} {u : Value} (h : RV ρ (.bool b) u) : u = .bool b := by cases h; rfl
theorem asPtr_inv {v : AV} {b o : Nat} (h : v.asPtr = some (b, o)) : v = .ptr b o := by
  cases v with
  | ptr b' o' => injection h with h; simp only [Prod.mk.injEq] at h; rw [h.1, h.2]
  | _ => cases h
theorem slOf_inv {v : AV} {b o l : Nat} (h : slOf v = some (b, o, l)) : ∃ c, v = .slice b o l c := by
  cases v with
  | slice b' o' l' c => injection h with h; simp only [Prod.mk.injEq] at h; rw [h.1, h.2.1, h.2.2]; exact ⟨c, rfl⟩
  | _ => cases h
theorem asMap_inv {v : AV} {b : Nat} (h : v.asMap = some b) : v = .map b := by
  cases v with
  | map b' => injection h with h; rw [h]
  | _ => cases h
theorem asMapo_inv2 {o : AO} {es : List Ent} {c : Nat} (h : asMapo o = some (es, c)) : o = .mapo es c := by
  cases o with
  | mapo es' c' => injection h with h; simp only [Prod.mk.injEq] at h; rw [h.1, h.2]
  | _ => cases h
theorem loadN_len {b i k : Nat} {vs : List AV} (h : H.loadN b i k = some vs) : vs.length = k := by
  obtain ⟨o, ho, h1⟩ := ob_some h
  cases o with
  | cells n d t => obtain ⟨_, h2⟩ := iteB_some (b := Nat.ble (Nat.add i k) n) h1; exact (loadT_get _ _ _ h2).1
  | ro n d t => obtain ⟨_, h2⟩ := iteB_some (b := Nat.ble (Nat.add i k) n) h1; exact (loadT_get _ _ _ h2).1
  | _ => cases h1
theorem results_one {fn : Func} {t : Tmp} (h : fn.results = #[.tmp t]) (tmps : Array Value) (w : World) : (results fn tmps).run P w = .ok (tmps.getD t undef) w := by
  unfold results
  rw [h]
  simp [Sem.run_pure]
theorem then_exit {id : Nat} {K : Act → World → Prop} {Q : Exit → Act → World → Prop} {a : Act} (h : Q (.exit id) a w) : Exit.then K Q (.exit id) a w := h
theorem inBlock_hit {id : Nat} {Q : Exit → Act → World → Prop} {a : Act} (h : Q .normal a w) : Exit.inBlock id Q (.exit id) a w := by
  show (if id = id then Q .normal a w else Q (.exit id) a w)
  rw [if_pos rfl]; exact h
structure Kp (ti : Tmp) (u : Value) (a : Act) : Prop where
  it : a.tmps.getD ti undef = u
  df : a.defers = []
theorem Kp.put {ti d : Tmp} {u v : Value} {a : Act} (h : Kp ti u a) (hd : d ≠ ti) : Kp ti u (a.put (some d) v) :=
  ⟨(put_getD_ne ti (by intro e; injection e with e; exact hd e)).trans h.it, put_defers.trans h.df⟩
theorem step_qk {ops : Array Oper} {Q : Exit → Act → World → Prop} {i : Nat} {rest : List Nat} {a : Act} {n : Nat} {F : SlF} {ti : Tmp} {iu : Value} (o : Oper) (d : Nat) (v : AV) (ho : ops[i]? = some o) (hg : o.guard = none) (hd : o.dst = some d) (hdn : d < n) (hne : d ≠ ti) (hS : Sl ρ n F a) (hK : Kp ti iu a) (hrep : Rep ρ H w) (hq : Go.Vex.quiet o.op = true)
    (hop : opA P o.op (envF F) H = some (.val v H)) (hk : ∀ a', Sl ρ n (upd F d v) a' → Kp ti iu a' → wpOps P ops Q rest a' w) : wpOps P ops Q (i :: rest) a w :=
  step_q o d v ho hg hd hdn hS hrep hq hop fun a' hS' hd' hs' => hk a' hS' ⟨(hs' ti (Ne.symm hne)).trans hK.it, hd'.trans hK.df⟩
theorem Sl.drop {n : Nat} {F : SlF} {d : Nat} {v : AV} {a : Act} (h : Sl ρ n (upd F d v) a) (hF : F d = none) : Sl ρ n F a := h.less fun t x hx => by
  unfold upd
  cases hb : Nat.beq t d with
  | true => have := beq_eq hb; subst this; rw [hF] at hx; cases hx
  | false => exact hx
/-- Within the rounds of Ops. -/
structure OpsI (ρ0 : Rho) (H0 : Hp) (w0 : World) (js : List (Nat × Nat × Nat)) (ls : List AV) (ol : Nat) (c : List AV) (n : Nat) (F : SlF) (H2 : Hp) (l rit rm bm : Nat) (xm : Nat × Nat) (cl : Nat) (ti : Tmp) (seen : Array Nat) (ρ : Rho) (Hc : Hp) (a : Act) (w : World) : Prop where
  sl : Sl ρ n F a
  it : a.tmps.getD ti undef = .pointer (some ⟨rit, 0, none⟩)
  df : a.defers = []
  rep : Rep ρ Hc w
  ext : Ext ρ0 H0 w0 ρ Hc w
  next : Hc.next = H2.next
  other : ∀ b, b ≠ l → Hc.fn b = H2.fn b
  cell : ∃ t, Hc.fn l = .cells c.length .any t ∧ CellsJ js ls ol (fun i => c[i]?) (fun b => b ∈ seen) c.length .any t
  at_ : w.heap[rit]? = some (.mapIter (some rm) cl seen cl)
  un : Un ρ Hc rit
  map : ρ bm = some (rm, xm)
end Go.Vex
