/-
  Walks by hand with contracts, first part.
  No condition.
-/
import Derived.Test.YtmpabjogookkpaaGreatVxH
set_option linter.unusedVariables false
namespace Go.Vex
variable {P : Program} {ρ ρ0 : Rho} {H H0 : Hp} {w w0 : World}
/-! ### Contents -/
/-- A block that is there to be read. -/
def Rds (o : AO) (L : List AV) : Prop := ∃ d t, (o = .cells L.length d t ∨ o = .ro L.length d t) ∧ ∀ i a, L[i]? = some a → t.get d i = some a
theorem Content.rds {o : AO} {L : List AV} (h : Content o L) : Rds o L := let ⟨d, t, e, g⟩ := h; ⟨d, t, .inl e, g⟩
theorem Rds.load1 {b i : Nat} {cs : List AV} {v : AV} (h : Rds (H.fn b) cs) (hv : cs[i]? = some v) : H.load1 b i = some v := by
  obtain ⟨d, t, e, ht⟩ := h
  have hi : i < cs.length := (List.getElem?_eq_some_iff.1 hv).1
  have hb : Nat.blt i cs.length = true := by rw [blt_dec]; simp [hi]
  show ob (H.obj b) _ = _
  rw [Hp.obj_fn]
  rcases e with e | e <;> rw [e]
  · show iteB (Nat.blt i cs.length) (t.get d i) none = _
    rw [hb]; exact ht i v hv
  · show iteB (Nat.blt i cs.length) (t.get d i) none = _
    rw [hb]; exact ht i v hv
theorem Content.load1 {b i : Nat} {cs : List AV} {v : AV} (h : Content (H.fn b) cs) (hv : cs[i]? = some v) : H.load1 b i = some v := h.rds.load1 hv
theorem loadT_ok {d : AV} {t : T AV} : ∀ (k i : Nat) (vs : List AV), vs.length = k → (∀ j v, vs[j]? = some v → t.get d (i + j) = some v) → loadT d t k i = some vs := by
  intro k
  induction k with
  | zero => intro i vs hl _; have := List.length_eq_zero_iff.1 hl; subst this; rfl
  | succ k ih =>
    intro i vs hl h
    cases vs with
    | nil => simp at hl
    | cons v vs =>
      show ob (t.get d i) (fun v => ob (loadT d t k (Nat.succ i)) fun r => some (v :: r)) = _
      have h0 := h 0 v rfl
      rw [Nat.add_zero] at h0
      rw [h0, ob_mk, ih (Nat.succ i) vs (by simpa using hl) fun j v hv => by rw [Nat.succ_add_eq_add_succ]; exact h (j + 1) v (by simpa using hv)]
      rfl
theorem Rds.loadN {b i k : Nat} {cs vs : List AV} (h : Rds (H.fn b) cs) (hi : i + k ≤ cs.length) (hv : (cs.drop i).take k = vs) : H.loadN b i k = some vs := by
  obtain ⟨d, t, e, ht⟩ := h
  have hb : Nat.ble (Nat.add i k) cs.length = true := by rw [Nat.ble_eq]; exact hi
  have e2 : H.loadN b i k = loadT d t k i := by
    show ob (H.obj b) _ = _
    rw [Hp.obj_fn]
    rcases e with e | e <;> rw [e]
    · show iteB (Nat.ble (Nat.add i k) cs.length) (loadT d t k i) none = _
      rw [hb]; rfl
    · show iteB (Nat.ble (Nat.add i k) cs.length) (loadT d t k i) none = _
      rw [hb]; rfl
  rw [e2]
  refine loadT_ok k i vs (by rw [← hv]; simp; omega) fun j v hj => ht (i + j) v ?_
  rw [← hv] at hj
  have hjk : j < k := by have := (List.getElem?_eq_some_iff.1 hj).1; simp at this; omega
  rw [List.getElem?_take_of_lt hjk, List.getElem?_drop] at hj
  exact hj
theorem Content.loadN {b i k : Nat} {cs vs : List AV} (h : Content (H.fn b) cs) (hi : i + k ≤ cs.length) (hv : (cs.drop i).take k = vs) : H.loadN b i k = some vs := h.rds.loadN hi hv
theorem Content.store {b i : Nat} {cs vs : List AV} (h : Content (H.fn b) cs) (hi : i + vs.length ≤ cs.length) :
    ∃ H', H.storeN b i vs = some H' ∧ H'.next = H.next ∧ (∀ c, c ≠ b → H'.fn c = H.fn c) ∧ Content (H'.fn b) (cs.take i ++ vs ++ cs.drop (i + vs.length)) := by
  obtain ⟨d, t, e, ht⟩ := h
  obtain ⟨H', t', h1, h2, h3, h4, _, h5⟩ := Hp.store_tot e hi
  have hl : (cs.take i ++ vs ++ cs.drop (i + vs.length)).length = cs.length := by simp; omega
  refine ⟨H', h1, h2, h3, d, t', by rw [hl]; exact h4, fun j a hj => ?_⟩
  rw [h5]
  by_cases hlt : j < i
  · rw [if_neg (by omega)]
    rw [List.append_assoc, List.getElem?_append_left (by simp; omega), List.getElem?_take_of_lt hlt] at hj
    exact ht j a hj
  · by_cases hm : j < i + vs.length
    · rw [if_pos ⟨by omega, hm⟩]
      rw [List.append_assoc, List.getElem?_append_right (by simp; omega), List.getElem?_append_left (by simp; omega)] at hj
      have e1 : j - (cs.take i).length = j - i := by simp; omega
      rw [e1] at hj; exact hj
    · rw [if_neg (by omega)]
      rw [List.getElem?_append_right (by simp; omega), List.getElem?_drop] at hj
      have e1 : i + vs.length + (j - (cs.take i ++ vs).length) = j := by simp; omega
      rw [e1] at hj
      exact ht j a hj
theorem Content.dead {o : AO} {cs : List AV} (h : Content o cs) : Lv o := by obtain ⟨d, t, e, _⟩ := h; rw [e]; simp
/-! ### A walk's state -/
structure Sx (P : Program) (ρ0 : Rho) (H0 : Hp) (w0 : World) (n : Nat) (Wr : Nat → Prop) (Φ : List (Nat × List AV)) (F : SlF) (ρ : Rho) (H : Hp) (a : Act) (w : World) : Prop where
  sl : Sl ρ n F a
  rep : Rep ρ H w
  ext : Ext ρ0 H0 w0 ρ H w
  df : a.defers = []
  kp : ∀ b, b < H0.next → ¬ Wr b → H.fn b = H0.fn b
  hp : ∀ (k b : Nat) (cs : List AV), Φ[k]? = some (b, cs) → b < H.next ∧ Content (H.fn b) cs ∧ (b < H0.next → Wr b)
  ds : ∀ (j k b : Nat) (cs cs' : List AV), Φ[j]? = some (b, cs) → Φ[k]? = some (b, cs') → j = k
/-- What a call ends in. -/
def Post (ρ0 : Rho) (H0 : Hp) (w0 : World) (R : AV → Hp → Prop) (e : Ending) (w : World) : Prop := ∃ ρ H u v, e = .returned u ∧ RV ρ v u ∧ Rep ρ H w ∧ Ext ρ0 H0 w0 ρ H w ∧ R v H
/-- A contract. -/
def Spec (P : Program) (f : FuncId) (args : List AV) (H : Hp) (R : AV → Hp → Prop) : Prop := ∀ (ρ : Rho) (w : World) (us : List Value), All2 (RV ρ) args us → Rep ρ H w → Calls P f us.toArray w (Post ρ H w R)
def Stays (H H' : Hp) : Prop := ∀ b, b < H.next → H'.fn b = H.fn b
/-- It only computes. -/
def Pure (V : AV) (H : Hp) (v : AV) (H' : Hp) : Prop := v = V ∧ Stays H H'
section
variable {n : Nat} {Wr : Nat → Prop} {Φ : List (Nat × List AV)} {F : SlF} {a : Act}
theorem Sx.next_le (h : Sx P ρ0 H0 w0 n Wr Φ F ρ H a w) : H0.next ≤ H.next := h.ext.next
/-- A block of the walk's own. -/
theorem Sx.has (h : Sx P ρ0 H0 w0 n Wr Φ F ρ H a w) (k : Nat) {b : Nat} {cs : List AV} (hk : Φ[k]? = some (b, cs)) : Content (H.fn b) cs := (h.hp k b cs hk).2.1
theorem Sx.ld (h : Sx P ρ0 H0 w0 n Wr Φ F ρ H a w) (k : Nat) {b o : Nat} {cs : List AV} {v : AV} (hk : Φ[k]? = some (b, cs)) (hv : cs[o]? = some v) : H.load1 b o = some v := (h.has k hk).load1 hv
theorem Sx.ldN (h : Sx P ρ0 H0 w0 n Wr Φ F ρ H a w) (k : Nat) {b o m : Nat} {cs vs : List AV} (hk : Φ[k]? = some (b, cs)) (hi : o + m ≤ cs.length) (hv : (cs.drop o).take m = vs) : H.loadN b o m = some vs := (h.has k hk).loadN hi hv
/-- A block that was there, and is only read. -/
theorem Sx.old (h : Sx P ρ0 H0 w0 n Wr Φ F ρ H a w) {b : Nat} {cs : List AV} (hb : Rds (H0.fn b) cs) (hlt : b < H0.next) (hw : ¬ Wr b) : Rds (H.fn b) cs := by rw [h.kp b hlt hw]; exact hb
variable {ops : Array Oper} {Q : Exit → Act → World → Prop} {i : Nat} {rest : List Nat}
theorem Sx.put (h : Sx P ρ0 H0 w0 n Wr Φ F ρ H a w) {d : Nat} (hd : d < n) {v : AV} {u : Value} (hv : RV ρ v u) : Sx P ρ0 H0 w0 n Wr Φ (upd F d v) ρ H (a.put (some d) u) w := ⟨h.sl.put hd hv, h.rep, h.ext, h.df, h.kp, h.hp, h.ds⟩
/-- A quiet operation. -/
theorem sx_q (o : Oper) (d : Nat) (v : AV) (ho : ops[i]? = some o) (hg : o.guard = none) (hd : o.dst = some d) (hdn : d < n) (h : Sx P ρ0 H0 w0 n Wr Φ F ρ H a w) (hq : Go.Vex.quiet o.op = true) (hop : opA P o.op (envF F) H = some (.val v H))
    (hk : ∀ a, Sx P ρ0 H0 w0 n Wr Φ (upd F d v) ρ H a w → wpOps P ops Q rest a w) : wpOps P ops Q (i :: rest) a w := by
  obtain ⟨v', u, e, hrun, hv⟩ := quiet_ok (P := P) (w := w) h.rep h.sl.env hq hop
  injection e with e; subst e
  refine wpOps_one ho hg hrun ?_
  rw [hd]
  exact hk _ (h.put hdn hv)
/-- The same, with a guard. -/
theorem sx_g (b : Bool) (o : Oper) (d : Nat) (v : AV) (ho : ops[i]? = some o) (hw : wanted ops.toList o (envF F) = some b) (hd : o.dst = some d) (hdn : d < n) (h : Sx P ρ0 H0 w0 n Wr Φ F ρ H a w) (hq : Go.Vex.quiet o.op = true)
    (hop : (if b then opA P o.op (envF F) H else some (.val .undef H)) = some (.val v H))
    (hk : ∀ a, Sx P ρ0 H0 w0 n Wr Φ (upd F d v) ρ H a w → wpOps P ops Q rest a w) : wpOps P ops Q (i :: rest) a w := by
  have hww := wanted_ok (ρ := ρ) (ops := ops) (tmps := a.tmps) (fun d _ v hv => h.sl.rel d v hv) hw
  rw [wpOps_cons]
  unfold wpOp
  simp only [ho, hww]
  cases b with
  | false =>
    rw [if_neg (by simp)] at hop ⊢
    injection hop with hop
    simp only [OR.val.injEq, and_true] at hop
    subst hop
    rw [hd]
    exact hk _ (h.put hdn .undef)
  | true =>
    rw [if_pos rfl] at hop ⊢
    obtain ⟨v', u, e, hrun, hv⟩ := quiet_ok (P := P) (w := w) h.rep h.sl.env hq hop
    injection e with e; subst e
    left
    unfold Oper.wp
    rw [hrun]
    show wpOps P ops Q rest (a.put o.dst u) w
    rw [hd]
    exact hk _ (h.put hdn hv)
/-- A new block. -/
theorem sx_new (o : Oper) (d : Nat) (v : Nat → AV) (cs : List AV) (ho : ops[i]? = some o) (hg : o.guard = none) (hd : o.dst = some d) (hdn : d < n) (h : Sx P ρ0 H0 w0 n Wr Φ F ρ H a w)
    (hop : ∃ ob, Content ob cs ∧ ∀ H', H.alloc ob = some H' → opA P o.op (envF F) H = some (.val (v H.next) H'))
    (hk : ∀ b ρ H a w, Sx P ρ0 H0 w0 n Wr (Φ ++ [(b, cs)]) (upd F d (v b)) ρ H a w → wpOps P ops Q rest a w) : wpOps P ops Q (i :: rest) a w := by
  obtain ⟨ob, hc, hop⟩ := hop
  obtain ⟨H', ha⟩ := Hp.alloc_tot H ob
  obtain ⟨hn, hf⟩ := Hp.alloc_fn ha
  refine step_v o d (v H.next) H' ho hg hd hdn h.sl h.rep (hop H' ha) fun ρ' a' w' hr hx hS hdf _ => hk H.next ρ' H' a' w' ?_
  have old : ∀ b, b < H.next → H'.fn b = H.fn b := fun b hb => by rw [hf, if_neg (by omega)]
  have hap : ∀ (k b : Nat) (cs' : List AV), (Φ ++ [(H.next, cs)])[k]? = some (b, cs') → Φ[k]? = some (b, cs') ∨ (k = Φ.length ∧ b = H.next ∧ cs' = cs) := by
    intro k b cs' hk
    by_cases hl : k < Φ.length
    · rw [List.getElem?_append_left hl] at hk; exact .inl hk
    · rw [List.getElem?_append_right (by omega)] at hk
      have hk0 : k - Φ.length = 0 := by have := (List.getElem?_eq_some_iff.1 hk).1; simp at this; omega
      rw [hk0] at hk
      simp only [List.getElem?_cons_zero, Option.some.injEq, Prod.mk.injEq] at hk
      exact .inr ⟨by omega, hk.1.symm, hk.2.symm⟩
  refine ⟨hS, hr, h.ext.trans hx, hdf.trans h.df, fun b hb hw => by rw [old b (by have := h.next_le; omega)]; exact h.kp b hb hw, fun k b cs' hp => ?_, fun j k b c1 c2 hj hk => ?_⟩
  · rcases hap k b cs' hp with hp | ⟨_, rfl, rfl⟩
    · obtain ⟨h1, h2, h3⟩ := h.hp k b cs' hp
      exact ⟨by omega, by rw [old _ h1]; exact h2, h3⟩
    · exact ⟨by omega, by rw [hf, if_pos rfl]; exact hc, fun hlt => by have := h.next_le; omega⟩
  · rcases hap j b c1 hj with hj | ⟨ej, eb, _⟩
    · rcases hap k b c2 hk with hk | ⟨ek, eb, _⟩
      · exact h.ds j k b c1 c2 hj hk
      · have := (h.hp j b c1 hj).1; omega
    · rcases hap k b c2 hk with hk | ⟨ek, eb', _⟩
      · have := (h.hp k b c2 hk).1; omega
      · omega
/-- One block of the walk's own is turned. -/
theorem Sx.turn (h : Sx P ρ0 H0 w0 n Wr Φ F ρ H a w) {k b : Nat} {cs cs' : List AV} (hk : Φ[k]? = some (b, cs)) {ρ' : Rho} {H' : Hp} {w' : World} {F' : SlF} (hr : Rep ρ' H' w') (hx : Ext ρ H w ρ' H' w') (hS : Sl ρ' n F' a) (h2 : H.next ≤ H'.next) (h3 : ∀ c, c < H.next → c ≠ b → H'.fn c = H.fn c) (h4 : Content (H'.fn b) cs') :
    Sx P ρ0 H0 w0 n Wr (Φ.set k (b, cs')) F' ρ' H' a w' := by
  obtain ⟨hb1, hb2, hb3⟩ := h.hp k b cs hk
  have hkl : k < Φ.length := (List.getElem?_eq_some_iff.1 hk).1
  have hst : ∀ (j b1 : Nat) (c1 : List AV), (Φ.set k (b, cs'))[j]? = some (b1, c1) → (j = k ∧ b1 = b ∧ c1 = cs') ∨ (j ≠ k ∧ Φ[j]? = some (b1, c1)) := by
    intro j b1 c1 hj
    by_cases e : k = j
    · subst e
      rw [List.getElem?_set_self hkl] at hj
      simp only [Option.some.injEq, Prod.mk.injEq] at hj
      exact .inl ⟨rfl, hj.1.symm, hj.2.symm⟩
    · rw [List.getElem?_set_ne e] at hj; exact .inr ⟨Ne.symm e, hj⟩
  refine ⟨hS, hr, h.ext.trans hx, h.df, fun b' hb' hw => ?_, fun j b1 c1 hj => ?_, fun j1 j2 b1 c1 c2 hj1 hj2 => ?_⟩
  · have : b' ≠ b := by intro e; subst e; exact hw (hb3 hb')
    rw [h3 b' (by have := h.next_le; omega) this]; exact h.kp b' hb' hw
  · rcases hst j b1 c1 hj with ⟨rfl, rfl, rfl⟩ | ⟨hne, hj'⟩
    · exact ⟨by omega, h4, hb3⟩
    · obtain ⟨q1, q2, q3⟩ := h.hp j b1 c1 hj'
      have : b1 ≠ b := by intro e; subst e; exact hne (h.ds j k _ _ _ hj' hk)
      exact ⟨by omega, by rw [h3 _ q1 this]; exact q2, q3⟩
  · rcases hst j1 b1 c1 hj1 with ⟨e1, e2, _⟩ | ⟨n1, hj1'⟩
    · rcases hst j2 b1 c2 hj2 with ⟨e3, _, _⟩ | ⟨n2, hj2'⟩
      · omega
      · subst e2; exact absurd (h.ds _ _ _ _ _ hj2' hk) n2
    · rcases hst j2 b1 c2 hj2 with ⟨_, e2, _⟩ | ⟨n2, hj2'⟩
      · subst e2; exact absurd (h.ds _ _ _ _ _ hj1' hk) n1
      · exact h.ds _ _ _ _ _ hj1' hj2'
/-- A store into a block of the walk's own. -/
theorem sx_st (o : Oper) (k b c : Nat) (cs vs : List AV) (ho : ops[i]? = some o) (hg : o.guard = none) (hd : o.dst = none) (h : Sx P ρ0 H0 w0 n Wr Φ F ρ H a w) (hk : Φ[k]? = some (b, cs)) (hi : c + vs.length ≤ cs.length)
    (hop : ∀ H', H.storeN b c vs = some H' → opA P o.op (envF F) H = some (.skip H'))
    (hn : ∀ ρ H w, Sx P ρ0 H0 w0 n Wr (Φ.set k (b, cs.take c ++ vs ++ cs.drop (c + vs.length))) F ρ H a w → wpOps P ops Q rest a w) : wpOps P ops Q (i :: rest) a w := by
  obtain ⟨hb1, hb2, hb3⟩ := h.hp k b cs hk
  obtain ⟨H', h1, h2, h3, h4⟩ := hb2.store hi
  exact step_s o H' ho hg hd h.sl h.rep (hop H' h1) fun ρ' w' hr hx hS => hn ρ' H' w' (h.turn hk hr hx hS (by omega) (fun c _ hc => h3 c hc) h4)
end
end Go.Vex
namespace Go.Vex
variable {P : Program} {ρ ρ0 : Rho} {H H0 : Hp} {w w0 : World}
section
variable {n : Nat} {Wr : Nat → Prop} {Φ : List (Nat × List AV)} {F : SlF} {a : Act} {ops : Array Oper} {Q : Exit → Act → World → Prop} {i : Nat} {rest : List Nat}
/-- A call by its contract. -/
theorem sx_call (o : Oper) (f : FuncId) (args : List AV) {R : AV → Hp → Prop} (ho : ops[i]? = some o) (hg : o.guard = none) (h : Sx P ρ0 H0 w0 n Wr Φ F ρ H a w) (hop : opA P o.op (envF F) H = some (.call f args)) (hs : Spec P f args H R)
    (hk : ∀ v ρ' H' u w', R v H' → RV ρ' v u → Rep ρ' H' w' → Ext ρ H w ρ' H' w' → wpOps P ops Q rest (a.put o.dst u) w') : wpOps P ops Q (i :: rest) a w := by
  obtain ⟨_, vs, hrun, hall⟩ := opA_ok (P := P) (w := w) h.rep h.sl.env hop
  refine wpOps_enter ho hg hrun (Calls.mono (hs ρ w vs hall h.rep) fun e w' hp => ?_)
  obtain ⟨ρ', H', u, v, rfl, hv, hr, hx, hR⟩ := hp
  exact hk v ρ' H' u w' hR hv hr hx
theorem Sx.stay (h : Sx P ρ0 H0 w0 n Wr Φ F ρ H a w) {ρ' : Rho} {H' : Hp} {w' : World} (hr : Rep ρ' H' w') (hx : Ext ρ H w ρ' H' w') (hs : Stays H H') : Sx P ρ0 H0 w0 n Wr Φ F ρ' H' a w' :=
  ⟨h.sl.mono hx.sub, hr, h.ext.trans hx, h.df, fun b hb hw => by rw [hs b (by have := h.next_le; omega)]; exact h.kp b hb hw,
    fun k b cs hk => let ⟨h1, h2, h3⟩ := h.hp k b cs hk; ⟨Nat.lt_of_lt_of_le h1 hx.next, by rw [hs b h1]; exact h2, h3⟩, h.ds⟩
/-- A call that only computes. -/
theorem sx_pure (o : Oper) (d : Nat) (f : FuncId) (args : List AV) (V : AV) (ho : ops[i]? = some o) (hg : o.guard = none) (hd : o.dst = some d) (hdn : d < n) (h : Sx P ρ0 H0 w0 n Wr Φ F ρ H a w) (hop : opA P o.op (envF F) H = some (.call f args)) (hs : Spec P f args H (Pure V H))
    (hk : ∀ ρ H a w, Sx P ρ0 H0 w0 n Wr Φ (upd F d V) ρ H a w → wpOps P ops Q rest a w) : wpOps P ops Q (i :: rest) a w :=
  sx_call o f args ho hg h hop hs fun v ρ' H' u w' hR hv hr hx => by
    obtain ⟨rfl, hst⟩ := hR
    rw [hd]
    exact hk ρ' H' _ w' ((h.stay hr hx hst).put hdn hv)
/-- A call that answers with a new block. -/
def Fresh (V : Nat → List AV → AV) (R : List AV → Prop) (H : Hp) (v : AV) (H' : Hp) : Prop := ∃ b cs, v = V b cs ∧ R cs ∧ H.next ≤ b ∧ b < H'.next ∧ Content (H'.fn b) cs ∧ Stays H H'
theorem Sx.more (h : Sx P ρ0 H0 w0 n Wr Φ F ρ H a w) {b : Nat} {cs : List AV} (hb : b < H.next) (h0 : H0.next ≤ b) (hc : Content (H.fn b) cs) (hn : ∀ (k c : Nat) (cs' : List AV), Φ[k]? = some (c, cs') → c ≠ b) : Sx P ρ0 H0 w0 n Wr (Φ ++ [(b, cs)]) F ρ H a w := by
  have hap : ∀ (k c : Nat) (cs' : List AV), (Φ ++ [(b, cs)])[k]? = some (c, cs') → Φ[k]? = some (c, cs') ∨ (k = Φ.length ∧ c = b ∧ cs' = cs) := by
    intro k c cs' hk
    by_cases hl : k < Φ.length
    · rw [List.getElem?_append_left hl] at hk; exact .inl hk
    · rw [List.getElem?_append_right (by omega)] at hk
      have hk0 : k - Φ.length = 0 := by have := (List.getElem?_eq_some_iff.1 hk).1; simp at this; omega
      rw [hk0] at hk
      simp only [List.getElem?_cons_zero, Option.some.injEq, Prod.mk.injEq] at hk
      exact .inr ⟨by omega, hk.1.symm, hk.2.symm⟩
  refine ⟨h.sl, h.rep, h.ext, h.df, h.kp, fun k c cs' hk => ?_, fun j k c c1 c2 hj hk => ?_⟩
  · rcases hap k c cs' hk with hk | ⟨_, rfl, rfl⟩
    · exact h.hp k c cs' hk
    · exact ⟨hb, hc, fun hlt => by omega⟩
  · rcases hap j c c1 hj with hj' | ⟨ej, eb, _⟩
    · rcases hap k c c2 hk with hk' | ⟨ek, eb, _⟩
      · exact h.ds j k c c1 c2 hj' hk'
      · exact absurd eb (hn j c c1 hj')
    · rcases hap k c c2 hk with hk' | ⟨ek, eb', _⟩
      · exact absurd eb (hn k c c2 hk')
      · omega
theorem sx_fresh (o : Oper) (d : Nat) (f : FuncId) (args : List AV) (V : Nat → List AV → AV) (R : List AV → Prop) (ho : ops[i]? = some o) (hg : o.guard = none) (hd : o.dst = some d) (hdn : d < n) (h : Sx P ρ0 H0 w0 n Wr Φ F ρ H a w) (hop : opA P o.op (envF F) H = some (.call f args)) (hs : Spec P f args H (Fresh V R H))
    (hk : ∀ b cs ρ H a w, R cs → Sx P ρ0 H0 w0 n Wr (Φ ++ [(b, cs)]) (upd F d (V b cs)) ρ H a w → wpOps P ops Q rest a w) : wpOps P ops Q (i :: rest) a w :=
  sx_call o f args ho hg h hop hs fun v ρ' H' u w' hR hv hr hx => by
    obtain ⟨b, cs, rfl, hR, h1, h2, h3, hst⟩ := hR
    rw [hd]
    have := ((h.stay hr hx hst).put hdn hv).more h2 (by have := h.next_le; omega) h3 fun k c cs' hk => by have := (h.hp k c cs' hk).1; omega
    exact hk b cs ρ' H' _ w' hR this
/-- A call that turns one block. -/
def Turns (b : Nat) (R : AV → List AV → Prop) (H : Hp) (v : AV) (H' : Hp) : Prop := ∃ cs, R v cs ∧ Content (H'.fn b) cs ∧ ∀ c, c < H.next → c ≠ b → H'.fn c = H.fn c
theorem sx_turn (o : Oper) (d : Nat) (f : FuncId) (args : List AV) (k b : Nat) (cs : List AV) (R : AV → List AV → Prop) (ho : ops[i]? = some o) (hg : o.guard = none) (hd : o.dst = some d) (hdn : d < n) (h : Sx P ρ0 H0 w0 n Wr Φ F ρ H a w) (hop : opA P o.op (envF F) H = some (.call f args)) (hkk : Φ[k]? = some (b, cs)) (hs : Spec P f args H (Turns b R H))
    (hk : ∀ v cs' ρ H a w, R v cs' → Sx P ρ0 H0 w0 n Wr (Φ.set k (b, cs')) (upd F d v) ρ H a w → wpOps P ops Q rest a w) : wpOps P ops Q (i :: rest) a w :=
  sx_call o f args ho hg h hop hs fun v ρ' H' u w' hR hv hr hx => by
    obtain ⟨cs', hR, h1, h2⟩ := hR
    rw [hd]
    exact hk v cs' ρ' H' _ w' hR ((h.turn hkk hr hx (h.sl.mono hx.sub) hx.next h2 h1).put hdn hv)
end
/-! ### In and out -/
def argF (args : List AV) : SlF := fun t => args[t]?
theorem sl_args {args : List AV} {us : List Value} (ha : All2 (RV ρ) args us) {n : Nat} (hn : args.length ≤ n) : Sl ρ n (argF args) { tmps := us.toArray ++ Array.replicate (n - us.toArray.size) undef, defers := [] } := by
  have hl := ha.length
  refine ⟨by simp; omega, fun t v hv => ?_⟩
  obtain ⟨u, hu, hr⟩ := ha.get t v hv
  have hlt : t < us.length := (List.getElem?_eq_some_iff.1 hu).1
  have : ({ tmps := us.toArray ++ Array.replicate (n - us.toArray.size) undef, defers := [] } : Act).tmps.getD t undef = u := by
    show (us.toArray ++ Array.replicate (n - us.toArray.size) undef).getD t undef = u
    rw [Array.getD_eq_getD_getElem?, Array.getElem?_append_left (by simpa using hlt)]
    simp [hu]
  rw [this]; exact hr
/-- A contract out of the body. Φ: the blocks that the call may turn. -/
theorem spec_body {f : FuncId} {fn : Func} {c : Code} {args : List AV} {R : AV → Hp → Prop} (n : Nat) (hf : P.funcs[f]? = some fn) (hb : fn.body = some c) (hn : fn.ntmps = n) (hl : args.length ≤ n) (Wr : Nat → Prop) (Φ : List (Nat × List AV))
    (hp : ∀ (k b : Nat) (cs : List AV), Φ[k]? = some (b, cs) → b < H.next ∧ Content (H.fn b) cs ∧ Wr b) (ds : ∀ (j k b : Nat) (cs cs' : List AV), Φ[j]? = some (b, cs) → Φ[k]? = some (b, cs') → j = k)
    (h : ∀ ρ w a, Sx P ρ H w n Wr Φ (argF args) ρ H a w → c.wp P (bodyPostD P fn (Post ρ H w R)) a w) : Spec P f args H R := by
  intro ρ w us ha hr
  refine calls_of_wp_defers hf hb ?_
  refine h ρ w _ ⟨?_, hr, Ext.refl _ _ _, rfl, fun _ _ _ => rfl, fun k b cs hk => let ⟨h1, h2, h3⟩ := hp k b cs hk; ⟨h1, h2, fun _ => h3⟩, ds⟩
  rw [hn]; exact sl_args ha hl
theorem spec_body0 {f : FuncId} {fn : Func} {c : Code} {args : List AV} {R : AV → Hp → Prop} (n : Nat) (hf : P.funcs[f]? = some fn) (hb : fn.body = some c) (hn : fn.ntmps = n) (hl : args.length ≤ n)
    (h : ∀ ρ w a, Sx P ρ H w n (fun _ => False) [] (argF args) ρ H a w → c.wp P (bodyPostD P fn (Post ρ H w R)) a w) : Spec P f args H R :=
  spec_body n hf hb hn hl (fun _ => False) [] (fun k b cs hk => by simp at hk) (fun j k b cs cs' hj => by simp at hj) h
theorem results_two {fn : Func} {s t : Tmp} (h : fn.results = #[.tmp s, .tmp t]) (tmps : Array Value) (w : World) : (results fn tmps).run P w = .ok (.tuple #[tmps.getD s undef, tmps.getD t undef]) w := by
  unfold results
  rw [h]
  simp [Sem.run_pure, Array.mapM_eq_mapM_toList]
theorem results_none {fn : Func} (h : fn.results = #[]) (tmps : Array Value) (w : World) : (results fn tmps).run P w = .ok (.tuple #[]) w := by
  unfold results
  rw [h]
  simp [Sem.run_pure]
theorem results_three {fn : Func} {s t r : Tmp} (h : fn.results = #[.tmp s, .tmp t, .tmp r]) (tmps : Array Value) (w : World) : (results fn tmps).run P w = .ok (.tuple #[tmps.getD s undef, tmps.getD t undef, tmps.getD r undef]) w := by
  unfold results
  rw [h]
  simp [Sem.run_pure, Array.mapM_eq_mapM_toList]
section
variable {n : Nat} {Wr : Nat → Prop} {Φ : List (Nat × List AV)} {F : SlF} {a : Act} {fn : Func} {R : AV → Hp → Prop}
theorem sx_ret1 (t : Tmp) (v : AV) (h : Sx P ρ0 H0 w0 n Wr Φ F ρ H a w) (hr : fn.results = #[.tmp t]) (hv : F t = some v) (hR : R v H) {Q : Exit → Act → World → Prop} (hQ : Leaves P fn a.tmps (Post ρ0 H0 w0 R) a.defers .returning w → Q .ret a w) : Code.ret.wp P Q a w := by
  refine wp_ret (hQ ?_)
  rw [h.df]
  exact ⟨_, results_one hr _ _, ρ, H, _, v, rfl, h.sl.rel t v hv, h.rep, h.ext, hR⟩
theorem sx_ret2 (s t : Tmp) (u v : AV) (h : Sx P ρ0 H0 w0 n Wr Φ F ρ H a w) (hr : fn.results = #[.tmp s, .tmp t]) (hu : F s = some u) (hv : F t = some v) (hR : R (.tup [u, v]) H) {Q : Exit → Act → World → Prop} (hQ : Leaves P fn a.tmps (Post ρ0 H0 w0 R) a.defers .returning w → Q .ret a w) : Code.ret.wp P Q a w := by
  refine wp_ret (hQ ?_)
  rw [h.df]
  exact ⟨_, results_two hr _ _, ρ, H, _, _, rfl, .tup (vs := [_, _]) (.cons (h.sl.rel s u hu) (.cons (h.sl.rel t v hv) .nil)), h.rep, h.ext, hR⟩
theorem sx_ret3 (s t r : Tmp) (u v x : AV) (h : Sx P ρ0 H0 w0 n Wr Φ F ρ H a w) (hr : fn.results = #[.tmp s, .tmp t, .tmp r]) (hu : F s = some u) (hv : F t = some v) (hx : F r = some x) (hR : R (.tup [u, v, x]) H) {Q : Exit → Act → World → Prop} (hQ : Leaves P fn a.tmps (Post ρ0 H0 w0 R) a.defers .returning w → Q .ret a w) : Code.ret.wp P Q a w := by
  refine wp_ret (hQ ?_)
  rw [h.df]
  exact ⟨_, results_three hr _ _, ρ, H, _, _, rfl, .tup (vs := [_, _, _]) (.cons (h.sl.rel s u hu) (.cons (h.sl.rel t v hv) (.cons (h.sl.rel r x hx) .nil))), h.rep, h.ext, hR⟩
/-- The body runs out; no result. -/
theorem sx_end0 (h : Sx P ρ0 H0 w0 n Wr Φ F ρ H a w) (hr : fn.results = #[]) (hR : R (.tup []) H) : bodyPostD P fn (Post ρ0 H0 w0 R) .normal a w := by
  show Leaves _ _ _ _ a.defers _ _
  rw [h.df]
  exact ⟨_, results_none hr _ _, ρ, H, _, _, rfl, .tup (vs := []) .nil, h.rep, h.ext, hR⟩
theorem Sx.stays (h : Sx P ρ0 H0 w0 n (fun _ => False) Φ F ρ H a w) : Stays H0 H := fun b hb => h.kp b hb (fun e => e)
theorem Sx.pure (h : Sx P ρ0 H0 w0 n (fun _ => False) Φ F ρ H a w) (V : AV) : Pure V H0 V H := ⟨rfl, h.stays⟩
theorem sx_true {t : Tmp} {x y : Code} {Q : Exit → Act → World → Prop} (h : Sx P ρ0 H0 w0 n Wr Φ F ρ H a w) (ht : F t = some (.bool true)) (hx : x.wp P Q a w) : (Code.cond (.tmp t) x y).wp P Q a w := wp_cond_true (h.sl.rel t _ ht).bool_inv hx
theorem sx_false {t : Tmp} {x y : Code} {Q : Exit → Act → World → Prop} (h : Sx P ρ0 H0 w0 n Wr Φ F ρ H a w) (ht : F t = some (.bool false)) (hy : y.wp P Q a w) : (Code.cond (.tmp t) x y).wp P Q a w := wp_cond_false (h.sl.rel t _ ht).bool_inv hy
/-- Some slots alone. -/
def listF (l : List (Nat × AV)) : SlF := fun t => (l.find? fun p => Nat.beq p.1 t).map (·.2)
def AllP {α : Type} (p : α → Prop) : List α → Prop | [] => True | x :: l => p x ∧ AllP p l
theorem AllP.mem {α : Type} {p : α → Prop} : ∀ {l : List α}, AllP p l → ∀ x ∈ l, p x := by
  intro l
  induction l with
  | nil => intro _ x hx; cases hx
  | cons y l ih =>
    intro h x hx
    rcases List.mem_cons.1 hx with rfl | hx
    · exact h.1
    · exact ih h.2 x hx
theorem Sx.slots (h : Sx P ρ0 H0 w0 n Wr Φ F ρ H a w) (l : List (Nat × AV)) (hl : AllP (fun p => F p.1 = some p.2) l) : Sx P ρ0 H0 w0 n Wr Φ (listF l) ρ H a w := by
  refine ⟨h.sl.less fun t v hv => ?_, h.rep, h.ext, h.df, h.kp, h.hp, h.ds⟩
  unfold listF at hv
  cases hf : l.find? fun p => Nat.beq p.1 t with
  | none => rw [hf] at hv; cases hv
  | some p =>
    rw [hf] at hv
    have hv : some p.2 = some v := hv
    injection hv with hv; subst hv
    have h1 := List.find?_some hf
    have := beq_eq h1; subst this
    exact hl.mem p (List.mem_of_find?_eq_some hf)
end
/-! ### What operations give -/
section
variable {e : Env}
theorem hop_loadN {t : TypeId} {x : Operand} {b o m : Nat} {vs : List AV} (ht : tyA P t = some (true, m)) (hx : e x = some (.ptr b o)) (hl : H.loadN b o m = some vs) : opA P (.load t x) e H = some (.val (.agg vs) H) := by
  show ob (tyA P t) _ = _
  rw [ht]
  show ob (e x) _ = _
  rw [hx]
  show ob (ob (H.loadN b o m) _) _ = _
  rw [hl]; rfl
theorem hop_box {t : TypeId} {x : Operand} {v : AV} {cs : List AV} (hx : e x = some v) (hc : v.cells = some cs) : ∃ ob, Content ob cs ∧ ∀ H', H.alloc ob = some H' → opA P (.box t x) e H = some (.val (.ptr H.next 0) H') := by
  obtain ⟨t', h1, h2⟩ := ofList_tot cs
  refine ⟨_, ofList_content h1, fun H' ha => ?_⟩
  show ob (e x) _ = _
  rw [hx]
  show ob v.cells _ = _
  rw [hc]
  show ob (ofList cs) _ = _
  rw [h1]
  show ob (H.alloc _) _ = _
  rw [ha]; rfl
theorem hop_alloc {t : TypeId} {cs : List AV} (hc : zeroCells P t = some cs) : ∃ ob, Content ob cs ∧ ∀ H', H.alloc ob = some H' → opA P (.alloc t) e H = some (.val (.ptr H.next 0) H') := by
  obtain ⟨t', h1, h2⟩ := ofList_tot cs
  refine ⟨_, ofList_content h1, fun H' ha => ?_⟩
  show ob (zeroObj P t) _ = _
  unfold zeroObj
  rw [hc]
  show ob (ofList cs) _ = _
  rw [h1]
  show ob (H.alloc _) _ = _
  rw [ha]; rfl
theorem hop_field' {s : TypeId} {x : Operand} {f k m b o : Nat} (hf : fieldSz P s f = some (k, m + 1)) (hx : e x = some (.ptr b o)) : opA P (.fieldAddr s x f) e H = some (.val (.ptr b (o + k)) H) := by
  show ob (fieldSz P s f) _ = _
  rw [hf]
  show ob (e x) _ = _
  rw [hx]; rfl
/-- A store of a value of so many cells. -/
theorem hop_storeN {t : TypeId} {x y : Operand} {b o m : Nat} {v : AV} {cs : List AV} (ht : size P t = some m) (hx : e x = some (.ptr b o)) (hy : e y = some v) (hv : v.cells = some cs) (hl : cs.length = m) : ∀ H', H.storeN b o cs = some H' → opA P (.store t x y) e H = some (.skip H') := by
  intro H' hs
  show ob (size P t) _ = _
  rw [ht]
  show ob (e x) _ = _
  rw [hx]
  show ob (e y) _ = _
  rw [hy]
  show ob v.cells _ = _
  rw [hv]
  show iteB (Nat.beq (lenL cs 0) m) (ob (H.storeN b o cs) _) none = _
  rw [lenL_zero, hl, Nat.beq_refl, hs]; rfl
/-- Numbers. -/
theorem mkInt_mk (k : IntKind) (z : Int) : mkInt k z = some (.int k z) := by
  unfold mkInt
  cases z with
  | ofNat n => cases n <;> rfl
  | negSucc n => cases n <;> rfl
theorem hop_bin {op : BinOp} {t : TypeId} {x y : Operand} {p} {A B V : AV} (hx : e x = some A) (hy : e y = some B) (hb : binA P op t A B = some V) : opA P (.binOp op t x y p) e H = some (.val V H) := by
  show ob (e x) _ = _
  rw [hx]
  show ob (e y) _ = _
  rw [hy]
  show ob (binA P op t A B) _ = _
  rw [hb]; rfl
theorem bin_add {t : TypeId} {k : IntKind} {a b : Int} : binA P .add t (.int k a) (.int k b) = some (.int k (k.wrap (a + b))) := by
  show iteB (kEq k k) (mkInt k (wrapK k (a + b))) none = _
  have : kEq k k = true := by cases k <;> rfl
  rw [this, iteB_true, mkInt_mk, wrapK_eq]
theorem bin_sub {t : TypeId} {k : IntKind} {a b : Int} : binA P .sub t (.int k a) (.int k b) = some (.int k (k.wrap (a - b))) := by
  show iteB (kEq k k) (mkInt k (wrapK k (a - b))) none = _
  have : kEq k k = true := by cases k <;> rfl
  rw [this, iteB_true, mkInt_mk, wrapK_eq]
theorem bin_mul {t : TypeId} {k : IntKind} {a b : Int} : binA P .mul t (.int k a) (.int k b) = some (.int k (k.wrap (a * b))) := by
  show iteB (kEq k k) (mkInt k (wrapK k (a * b))) none = _
  have : kEq k k = true := by cases k <;> rfl
  rw [this, iteB_true, mkInt_mk, wrapK_eq]
theorem kEq_self (k : IntKind) : kEq k k = true := by cases k <;> rfl
theorem bin_lss {t : TypeId} {k : IntKind} {a b : Int} {r : Bool} (h : decide (a < b) = r) : binA P .lss t (.int k a) (.int k b) = some (.bool r) := by
  show iteB (kEq k k) (some (AV.bool (intLt a b))) none = _
  rw [kEq_self, iteB_true, intLt_iff, h]
theorem bin_gtr {t : TypeId} {k : IntKind} {a b : Int} {r : Bool} (h : decide (b < a) = r) : binA P .gtr t (.int k a) (.int k b) = some (.bool r) := by
  show iteB (kEq k k) (some (AV.bool (intLt b a))) none = _
  rw [kEq_self, iteB_true, intLt_iff, h]
theorem bin_leq {t : TypeId} {k : IntKind} {a b : Int} {r : Bool} (h : decide (a ≤ b) = r) : binA P .leq t (.int k a) (.int k b) = some (.bool r) := by
  show iteB (kEq k k) (some (AV.bool (not (intLt b a)))) none = _
  rw [kEq_self, iteB_true, intLt_iff, ← h]
  congr 2
  by_cases h1 : b < a
  · simp [h1]
  · simp [h1]; omega
theorem bin_geq {t : TypeId} {k : IntKind} {a b : Int} {r : Bool} (h : decide (b ≤ a) = r) : binA P .geq t (.int k a) (.int k b) = some (.bool r) := by
  show iteB (kEq k k) (some (AV.bool (not (intLt a b)))) none = _
  rw [kEq_self, iteB_true, intLt_iff, ← h]
  congr 2
  by_cases h1 : a < b
  · simp [h1]
  · simp [h1]; omega
theorem bin_eql {t : TypeId} {k : IntKind} {a b : Int} {r : Bool} (h : decide (a = b) = r) : binA P .eql t (.int k a) (.int k b) = some (.bool r) := by
  show iteB (kEq k k) (some (AV.bool (intEq a b))) none = _
  rw [kEq_self, iteB_true, intEq_iff, h]
theorem bin_neq {t : TypeId} {k : IntKind} {a b : Int} {r : Bool} (h : decide (a = b) = !r) : binA P .neq t (.int k a) (.int k b) = some (.bool r) := by
  show iteB (kEq k k) (some (AV.bool (not (intEq a b)))) none = _
  rw [kEq_self, iteB_true, intEq_iff, h]; simp
end
end Go.Vex
namespace Go.Vex
theorem bin_neq_t {P : Program} {t : TypeId} {k : IntKind} {a b : Int} (h : a ≠ b) : binA P .neq t (.int k a) (.int k b) = some (.bool true) := bin_neq (by simp [h])
theorem bin_neq_f {P : Program} {t : TypeId} {k : IntKind} {a b : Int} (h : a = b) : binA P .neq t (.int k a) (.int k b) = some (.bool false) := bin_neq (by simp [h])
theorem bin_neq_bool {P : Program} {t : TypeId} (h : P.underlying t = some .bool) {a b : Bool} : binA P .neq t (.bool a) (.bool b) = some (.bool (not (a == b))) := by
  show eqBin .neq (eqOther P t (.bool a) (.bool b)) = _
  unfold eqOther
  rw [h]; rfl
theorem bin_eql_bool {P : Program} {t : TypeId} (h : P.underlying t = some .bool) {a b : Bool} : binA P .eql t (.bool a) (.bool b) = some (.bool (a == b)) := by
  show eqBin .eql (eqOther P t (.bool a) (.bool b)) = _
  unfold eqOther
  rw [h]; rfl
/-! ### Values without places -/
noncomputable def flatB : Nat → AV → Bool
  | 0, _ => false
  | n + 1, v => match v with
    | .ptr .. => false
    | .slice .. => false
    | .map _ => false
    | .func .. => false
    | .iface _ v => flatB n v
    | .agg l => l.all (flatB n)
    | .tup l => l.all (flatB n)
    | _ => true
theorem RV.flat {ρ ρ' : Rho} : ∀ (n : Nat) (v : AV), flatB n v = true → ∀ u, RV ρ v u → RV ρ' v u := by
  intro n
  induction n with
  | zero => intro v h; cases h
  | succ n ih =>
    intro v h u hv
    cases hv with
    | any => exact .any _
    | undef => exact .undef
    | bool => exact .bool _
    | int => exact .int _ _
    | str => exact .str _
    | ptr => cases h
    | nilp => exact .nilp
    | sfix => cases h
    | sopn => cases h
    | nils => exact .nils
    | zsl => exact .zsl
    | map => cases h
    | nilm => exact .nilm
    | func => cases h
    | nilf => exact .nilf
    | iface hv => exact .iface (ih _ h _ hv)
    | nili => exact .nili
    | agg hl hs => exact .agg (hl.mono_of fun a ha v hv => ih a (List.all_eq_true.1 h a ha) v hv) hs
    | tup hl => exact .tup (hl.mono_of fun a ha v hv => ih a (List.all_eq_true.1 h a ha) v hv)
/-- What a closed run shows of any world. -/
theorem spec_run {P : Program} {msk : FuncId → Nat} {orc : Orc} {hint : Nat → Bool} {m : Nat} (hm : P.follows .mixedOrders = true) (ho : OrcOK P orc) {f : FuncId} (hen : enterOK P f = true) {args : List AV} {v : AV} {H1 : Hp} {n : Nat} (ha : args.all (flatB n) = true) (hv : flatB n v = true)
    (h : callStep P msk orc (ev P hint msk orc m) f args ⟨0, .leaf⟩ = some (.ret v H1)) (H : Hp) : Spec P f args H (Pure v H) := by
  have hev := ev_ok (P := P) (hint := hint) (msk := msk) ho (fun _ hc => draw_ok hm hc) (fun _ hc => idle_ok hc) m
  intro ρ w us hus hr
  have hus' : All2 (RV fun _ => none) args us := hus.mono_of fun a hm v hv => RV.flat n a (List.all_eq_true.1 ha a hm) v hv
  refine Calls.mono (callStep_ok (msk := msk) ho hev f args _ _ h hen (fun _ => none) w us hus' (Rep.empty w)) fun e w' hp => ?_
  obtain ⟨ρ', u, rfl, hv', _, hx⟩ := hp
  have hf : ∀ b, (Hp.mk 0 T.leaf).fn b = .dead := fun b => Hp.fn_of_obj (o := AO.dead) (show T.get AO.dead T.leaf b = some AO.dead from T.get_leaf AO.dead b)
  have hk : ∀ r, r < w.heap.size → w'.heap[r]? = w.heap[r]? := fun r hr => (hx.frame r hr fun b r' y hb => by rw [hf b] at hb; exact hb.elim).1
  have hext : Ext ρ H w ρ H w' := ⟨ρ.sub_refl, Nat.le_refl _, hx.size, fun r hr hu => ⟨hk r hr, hu⟩, hx.os, hx.out, fun _ _ _ _ h => h⟩
  refine ⟨ρ, H, u, v, rfl, RV.flat n v hv u hv', ⟨fun b hb => ?_, hr.inj, hr.nxt, hr.rdx hext⟩, hext, rfl, fun _ _ => rfl⟩
  obtain ⟨r, base, en, ob, h1, h2, h3⟩ := hr.live b hb
  exact ⟨r, base, en, ob, h1, (hk r (hr.blk_lt hb h1)).trans h2, h3⟩
/-- For each number below. -/
noncomputable def allK (n : Nat) (p : Nat → Option Unit) : Option Unit := natRec (some ()) (fun k ih => ob (p k) fun _ => ih) n
theorem allK_inv {p : Nat → Option Unit} : ∀ {n : Nat}, allK n p = some () → ∀ k, k < n → p k = some () := by
  intro n
  induction n with
  | zero => intro _ k hk; omega
  | succ n ih =>
    intro h k hk
    obtain ⟨u, h1, h2⟩ := ob_some (x := p n) h
    by_cases e : k = n
    · subst e; exact h1
    · exact ih h2 k (by omega)
noncomputable def givesV (v : AV) (k : KR) : Option Unit := match k with | .ret u _ => iteB (sameAV v u) (some ()) none | .pnc .. => none
theorem givesV_inv {v : AV} {k : KR} (h : givesV v k = some ()) : ∃ H, k = .ret v H := by
  cases k with
  | ret u H => obtain ⟨h1, _⟩ := iteB_some (b := sameAV v u) h; rw [sameAV_eq h1]; exact ⟨H, rfl⟩
  | pnc v H => cases h
end Go.Vex
namespace Go.Vex
theorem hop_callf {P : Program} {F : SlF} {H : Hp} {g : FuncId} {args : Array Operand} {ats : Array TypeId} {l : List AV} (hen : enterOK P g = true) (hl : opds (envF F) args.toList = some l) : opA P (.call ⟨.value (.func g), args, ats⟩) (envF F) H = some (.call g l) := by
  show ob (opds (envF F) args.toList) _ = _
  rw [hl]
  show iteB (enterOK P g) (ob (app l []) fun r => ob (app [] r) fun r => some (OR.call g r)) none = _
  rw [hen, iteB_true, app_ok l [], List.append_nil]
  show ob (app [] l) _ = _
  rw [app_ok [] l]; rfl
theorem hop_len_str {P : Program} {e : Env} {H : Hp} {t : TypeId} {x : Operand} {s : List Nat} (ht : P.underlying t = some .string) (hx : e x = some (.str s)) : opA P (.call ⟨.builtin .len, ⟨[x]⟩, ⟨[t]⟩⟩) e H = some (.val (.int .i64 (.ofNat s.length)) H) := by
  show ob (ob (e x) fun y => ob (some []) fun r => some (y :: r)) _ = _
  rw [hx]
  show ob (P.underlying t) _ = _
  rw [ht]
  show some (OR.val (.int .i64 (.ofNat (lenL s 0))) H) = _
  rw [lenL_zero]
def codeOf (f : Func) : Code := match f.body with | some c => c | none => .skip
end Go.Vex
namespace Go.Vex
def seqL (c : Code) : Code := match c with | .seq a _ => a | c => c
def seqR (c : Code) : Code := match c with | .seq _ b => b | c => c
end Go.Vex
namespace Go.Vex
section
variable {P : Program} {ρ ρ0 : Rho} {H H0 : Hp} {w w0 : World} {n : Nat} {Wr : Nat → Prop} {Φ : List (Nat × List AV)} {F : SlF} {a : Act} {ops : Array Oper} {Q : Exit → Act → World → Prop} {i : Nat} {rest : List Nat}
theorem sx_gt (o : Oper) (d : Nat) (v : AV) (ho : ops[i]? = some o) (hw : wanted ops.toList o (envF F) = some true) (hd : o.dst = some d) (hdn : d < n) (h : Sx P ρ0 H0 w0 n Wr Φ F ρ H a w) (hq : Go.Vex.quiet o.op = true) (hop : opA P o.op (envF F) H = some (.val v H))
    (hk : ∀ a, Sx P ρ0 H0 w0 n Wr Φ (upd F d v) ρ H a w → wpOps P ops Q rest a w) : wpOps P ops Q (i :: rest) a w :=
  sx_g true o d v ho hw hd hdn h hq (by rw [if_pos rfl]; exact hop) hk
theorem sx_gf (o : Oper) (d : Nat) (ho : ops[i]? = some o) (hw : wanted ops.toList o (envF F) = some false) (hd : o.dst = some d) (hdn : d < n) (h : Sx P ρ0 H0 w0 n Wr Φ F ρ H a w) (hq : Go.Vex.quiet o.op = true)
    (hk : ∀ a, Sx P ρ0 H0 w0 n Wr Φ (upd F d .undef) ρ H a w → wpOps P ops Q rest a w) : wpOps P ops Q (i :: rest) a w :=
  sx_g false o d .undef ho hw hd hdn h hq (by rw [if_neg (by simp)]) hk
end
end Go.Vex
namespace Go.Vex
def blkB (c : Code) : Code := match c with | .block _ a => a | c => c
def loopB (c : Code) : Code := match c with | .loop a => a | c => c
def condT (c : Code) : Code := match c with | .cond _ a _ => a | c => c
def condE (c : Code) : Code := match c with | .cond _ _ b => b | c => c
section
variable {P : Program} {e : Env} {H : Hp}
theorem hop_index_arr {t : TypeId} {x i : Operand} {n j : Nat} {k : IntKind} {cs : List AV} {v : AV} (ht : ixKind P t = some (.arr n 1 false)) (hx : e x = some (.agg cs)) (hi : e i = some (.int k (.ofNat j))) (hj : Nat.blt j n = true) (hv : nth cs j = some v) : opA P (.index t x i) e H = some (.val v H) := by
  show ob (ixKind P t) _ = _
  rw [ht]
  show ob (e x) _ = _
  rw [hx]
  show ob (e i) _ = _
  rw [hi]
  show ob (iteB (Nat.blt j n) (partA cs false (Nat.mul j 1) 1) none) _ = _
  rw [hj]
  show ob (nth cs (Nat.mul j 1)) _ = _
  have : Nat.mul j 1 = j := Nat.mul_one j
  rw [this, hv]; rfl
theorem hop_build_arr {t el : TypeId} {ps : Array (Nat × Operand)} {n : Nat} {z cs : List AV} (hz : zeroCells P t = some z) (hu : P.underlying t = some (.array n el)) (hs : size P el = some 1) (hf : fillParts e (arrPlace 1) ps.toList z = some cs) : opA P (.build t ps) e H = some (.val (.agg cs) H) := by
  show ob (zeroCells P t) _ = _
  rw [hz]
  show ob (P.underlying t) _ = _
  rw [hu]
  show ob (size P el) _ = _
  rw [hs]
  show ob (fillParts e (arrPlace 1) ps.toList z) _ = _
  rw [hf]; rfl
end
end Go.Vex
namespace Go.Vex
variable {P : Program} {ρ ρ0 : Rho} {H H0 : Hp} {w w0 : World}
section
variable {n : Nat} {Wr : Nat → Prop} {Φ : List (Nat × List AV)} {F : SlF} {a : Act} {ops : Array Oper} {Q : Exit → Act → World → Prop} {i : Nat} {rest : List Nat}
/-- Some of the blocks, in such an order. -/
theorem Sx.keep (h : Sx P ρ0 H0 w0 n Wr Φ F ρ H a w) (Φ' : List (Nat × List AV)) (f : Nat → Nat) (hf : ∀ j k, f j = f k → j < Φ'.length → k < Φ'.length → j = k) (hΦ : ∀ j, j < Φ'.length → Φ'[j]? = Φ[f j]?) : Sx P ρ0 H0 w0 n Wr Φ' F ρ H a w := by
  refine ⟨h.sl, h.rep, h.ext, h.df, h.kp, fun k b cs hk => ?_, fun j k b c1 c2 hj hk => ?_⟩
  · have hl : k < Φ'.length := (List.getElem?_eq_some_iff.1 hk).1
    rw [hΦ k hl] at hk; exact h.hp _ b cs hk
  · have h1 : j < Φ'.length := (List.getElem?_eq_some_iff.1 hj).1
    have h2 : k < Φ'.length := (List.getElem?_eq_some_iff.1 hk).1
    rw [hΦ j h1] at hj; rw [hΦ k h2] at hk
    exact hf j k (h.ds _ _ b c1 c2 hj hk) h1 h2
theorem Sx.keep0 (h : Sx P ρ0 H0 w0 n Wr Φ F ρ H a w) : Sx P ρ0 H0 w0 n Wr [] F ρ H a w := h.keep [] id (fun _ _ _ h => by simp at h) (fun _ h => by simp at h)
theorem Sx.keep1 (h : Sx P ρ0 H0 w0 n Wr Φ F ρ H a w) (k : Nat) {p : Nat × List AV} (hk : Φ[k]? = some p) : Sx P ρ0 H0 w0 n Wr [p] F ρ H a w :=
  h.keep [p] (fun _ => k) (fun j1 j2 _ h1 h2 => by simp at h1 h2; omega) (fun j hj => by
    have : j = 0 := by simp at hj; omega
    subst this; exact hk.symm)
theorem Sx.keep2 (h : Sx P ρ0 H0 w0 n Wr Φ F ρ H a w) (k l : Nat) (hne : k ≠ l) {p q : Nat × List AV} (hk : Φ[k]? = some p) (hl : Φ[l]? = some q) : Sx P ρ0 H0 w0 n Wr [p, q] F ρ H a w :=
  h.keep [p, q] (fun j => if j = 0 then k else l) (fun j1 j2 e h1 h2 => by
    simp at h1 h2
    have : j1 = 0 ∨ j1 = 1 := by omega
    have : j2 = 0 ∨ j2 = 1 := by omega
    rcases ‹j1 = 0 ∨ j1 = 1› with rfl | rfl <;> rcases ‹j2 = 0 ∨ j2 = 1› with rfl | rfl <;> simp_all) (fun j hj => by
    have : j = 0 ∨ j = 1 := by simp at hj; omega
    rcases this with rfl | rfl
    · exact hk.symm
    · exact hl.symm)
theorem Sx.keep3 (h : Sx P ρ0 H0 w0 n Wr Φ F ρ H a w) (k l m : Nat) (h1 : k ≠ l) (h2 : k ≠ m) (h3 : l ≠ m) {p q r : Nat × List AV} (hk : Φ[k]? = some p) (hl : Φ[l]? = some q) (hm : Φ[m]? = some r) : Sx P ρ0 H0 w0 n Wr [p, q, r] F ρ H a w :=
  h.keep [p, q, r] (fun j => if j = 0 then k else if j = 1 then l else m) (fun j1 j2 e e1 e2 => by
    simp at e1 e2
    have : j1 = 0 ∨ j1 = 1 ∨ j1 = 2 := by omega
    have : j2 = 0 ∨ j2 = 1 ∨ j2 = 2 := by omega
    rcases ‹j1 = 0 ∨ j1 = 1 ∨ j1 = 2› with rfl | rfl | rfl <;> rcases ‹j2 = 0 ∨ j2 = 1 ∨ j2 = 2› with rfl | rfl | rfl <;> simp_all) (fun j hj => by
    have : j = 0 ∨ j = 1 ∨ j = 2 := by simp at hj; omega
    rcases this with rfl | rfl | rfl
    · exact hk.symm
    · exact hl.symm
    · exact hm.symm)
/-- A block goes over into a new one. -/
theorem Sx.move (h : Sx P ρ0 H0 w0 n Wr Φ F ρ H a w) {k b b' : Nat} {cs cs' : List AV} (hk : Φ[k]? = some (b, cs)) {ρ' : Rho} {H' : Hp} {w' : World} {F' : SlF} (hr : Rep ρ' H' w') (hx : Ext ρ H w ρ' H' w') {a' : Act} (hS : Sl ρ' n F' a') (hdf : a'.defers = a.defers) (h1 : H.next ≤ b') (h2 : b' < H'.next)
    (h3 : ∀ c, c < H.next → c ≠ b → H'.fn c = H.fn c) (h4 : Content (H'.fn b') cs') : Sx P ρ0 H0 w0 n Wr (Φ.set k (b', cs')) F' ρ' H' a' w' := by
  obtain ⟨hb1, hb2, hb3⟩ := h.hp k b cs hk
  have hkl : k < Φ.length := (List.getElem?_eq_some_iff.1 hk).1
  have hst : ∀ (j b1 : Nat) (c1 : List AV), (Φ.set k (b', cs'))[j]? = some (b1, c1) → (j = k ∧ b1 = b' ∧ c1 = cs') ∨ (j ≠ k ∧ Φ[j]? = some (b1, c1)) := by
    intro j b1 c1 hj
    by_cases e : k = j
    · subst e
      rw [List.getElem?_set_self hkl] at hj
      simp only [Option.some.injEq, Prod.mk.injEq] at hj
      exact .inl ⟨rfl, hj.1.symm, hj.2.symm⟩
    · rw [List.getElem?_set_ne e] at hj; exact .inr ⟨Ne.symm e, hj⟩
  have hnl := h.next_le
  refine ⟨hS, hr, h.ext.trans hx, hdf.trans h.df, fun b1 hb' hw => ?_, fun j b1 c1 hj => ?_, fun j1 j2 b1 c1 c2 hj1 hj2 => ?_⟩
  · have : b1 ≠ b := by intro e; subst e; exact hw (hb3 hb')
    rw [h3 b1 (by omega) this]; exact h.kp b1 hb' hw
  · rcases hst j b1 c1 hj with ⟨rfl, rfl, rfl⟩ | ⟨hne, hj'⟩
    · exact ⟨h2, h4, fun hlt => by omega⟩
    · obtain ⟨q1, q2, q3⟩ := h.hp j b1 c1 hj'
      have : b1 ≠ b := by intro e; subst e; exact hne (h.ds j k _ _ _ hj' hk)
      exact ⟨by omega, by rw [h3 _ q1 this]; exact q2, q3⟩
  · rcases hst j1 b1 c1 hj1 with ⟨e1, e2, _⟩ | ⟨n1, hj1'⟩
    · rcases hst j2 b1 c2 hj2 with ⟨e3, _, _⟩ | ⟨n2, hj2'⟩
      · omega
      · have := (h.hp j2 b1 c2 hj2').1; omega
    · rcases hst j2 b1 c2 hj2 with ⟨_, e2, _⟩ | ⟨n2, hj2'⟩
      · have := (h.hp j1 b1 c1 hj1').1; omega
      · exact h.ds _ _ _ _ _ hj1' hj2'
/-- append, as the walk sees it. -/
theorem app_own {el : TypeId} {sz b len m : Nat} {cs new : List AV} {x : AV} (hg : growSize P el = some sz) (hx : lenOfA x = some m) (hm : m ≤ 67108864) (hl : len ≤ 67108864) (hnew : firstCells H sz m x = some new) (hcs : cs.length = len * sz) (hc : Content (H.fn b) cs) (hm0 : m ≠ 0) :
    ∃ H', appendA P H el (.slice b 0 len (.opn sz)) x = some (.val (.slice H.next 0 (len + m) (.opn sz)) H') ∧ H'.next = H.next + 1 ∧ (∀ c, c < H.next → c ≠ b → H'.fn c = H.fn c) ∧ Content (H'.fn H.next) (cs ++ new) := by
  obtain ⟨d, t, e, ht⟩ := hc
  obtain ⟨t', hst⟩ := storeT_tot (d := d) new t cs.length
  obtain ⟨tr, hp⟩ := T.set_tot .dead .dead H.t b
  have hput : H.put b .dead = some ⟨H.next, tr⟩ := by show ob (H.t.set .dead .dead b) _ = _; rw [hp]; rfl
  obtain ⟨p1, p2⟩ := Hp.put_fn hput
  obtain ⟨H', ha⟩ := Hp.alloc_tot ⟨H.next, tr⟩ (.cells (cs.length + new.length) d t')
  obtain ⟨a1, a2⟩ := Hp.alloc_fn ha
  refine ⟨H', ?_, a1, fun c hc hne => ?_, ?_⟩
  · show ob (growSize P el) _ = _
    rw [hg]
    show ob (lenOfA x) _ = _
    rw [hx]
    show iteB (Nat.ble m 67108864) (ob (some len) fun m' => iteB (Nat.ble m' 67108864) (ob (firstCells H sz m x) fun new => appTo H sz m new (.slice b 0 len (.opn sz))) none) none = _
    have e1 : Nat.ble m 67108864 = true := by rw [Nat.ble_eq]; exact hm
    have e2 : Nat.ble len 67108864 = true := by rw [Nat.ble_eq]; exact hl
    rw [e1, iteB_true, ob_mk, e2, iteB_true, hnew]
    show iteB (Nat.beq m 0) _ (iteB (Nat.beq sz sz) (orElseO (iteB (Nat.beq 0 0) (ob (H.obj b) fun o => appMove H sz m new b len o) none) (appCopy H sz m new b 0 len)) none) = _
    have e3 : Nat.beq m 0 = false := by rw [beq_dec]; simp [hm0]
    rw [e3, iteB_false, Nat.beq_refl, iteB_true, Nat.beq_refl, iteB_true, Hp.obj_fn, e]
    have hmv : appMove H sz m new b len (.cells cs.length d t) = some (.val (.slice H.next 0 (len + m) (.opn sz)) H') := by
      show iteB (Nat.beq cs.length (Nat.mul len sz)) (ob (storeT d new t cs.length) fun t' => ob (H.put b .dead) fun H' => allocV H' (.cells (Nat.add cs.length (lenL new 0)) d t') (.slice H.next 0 (Nat.add len m) (.opn sz))) none = _
      have e4 : Nat.beq cs.length (Nat.mul len sz) = true := by rw [hcs]; exact Nat.beq_refl _
      rw [e4, iteB_true, hst, ob_mk, hput, ob_mk, lenL_zero]
      show ob (Hp.alloc ⟨H.next, tr⟩ (.cells (cs.length + new.length) d t')) _ = _
      rw [ha]; rfl
    show orElseO (appMove H sz m new b len (.cells cs.length d t)) _ = _
    rw [hmv]; rfl
  · rw [a2, if_neg (by show c ≠ H.next; omega), p2, if_neg hne]
  · rw [a2, if_pos rfl]
    refine ⟨d, t', by simp, fun j v hj => ?_⟩
    rw [storeT_get new t t' cs.length hst j]
    by_cases hlt : j < cs.length
    · rw [if_neg (by omega)]
      rw [List.getElem?_append_left hlt] at hj
      exact ht j v hj
    · rw [List.getElem?_append_right (by omega)] at hj
      have := (List.getElem?_eq_some_iff.1 hj).1
      rw [if_pos (by omega)]
      exact hj
theorem hop_app {t el t2 : TypeId} {d2 : TypeDesc} {x y : Operand} {e : Env} {A B : AV} {r : OR} (ht : elemOf P t = some el) (ht2 : P.underlying t2 = some d2) (hd2 : isIntD d2 = false) (hx : e x = some A) (hy : e y = some B) (h : appendA P H el A B = some r) : opA P (.call ⟨.builtin .append, ⟨[x, y]⟩, ⟨[t, t2]⟩⟩) e H = some r := by
  show ob (ob (e x) fun y' => ob (ob (e y) fun z => ob (some []) fun r => some (z :: r)) fun r => some (y' :: r)) _ = _
  rw [hx, hy]
  show ob (elemOf P t) _ = _
  rw [ht]
  show ob (P.underlying t2) _ = _
  rw [ht2]
  show iteB (isIntD d2) none (appendA P H el A B) = _
  rw [hd2]; exact h
/-- append to a row of the walk's own, by so many elements. -/
theorem sx_app (o : Oper) (d : Nat) (k b len m : Nat) (cs new : List AV) {t el t2 : TypeId} {d2 : TypeDesc} {x y : Operand} {B : AV} {sz : Nat} (ho : ops[i]? = some o) (hg : o.guard = none) (hd : o.dst = some d) (hdn : d < n) (h : Sx P ρ0 H0 w0 n Wr Φ F ρ H a w)
    (hop : o.op = .call ⟨.builtin .append, ⟨[x, y]⟩, ⟨[t, t2]⟩⟩) (ht : elemOf P t = some el) (ht2 : P.underlying t2 = some d2) (hd2 : isIntD d2 = false) (hgr : growSize P el = some sz) (hx : envF F x = some (.slice b 0 len (.opn sz))) (hy : envF F y = some B)
    (hk : Φ[k]? = some (b, cs)) (hcs : cs.length = len * sz) (hm : lenOfA B = some m) (hm1 : m ≤ 67108864) (hl : len ≤ 67108864) (hnew : firstCells H sz m B = some new) (hm0 : m ≠ 0)
    (hn : ∀ b ρ H a w, Sx P ρ0 H0 w0 n Wr (Φ.set k (b, cs ++ new)) (upd F d (.slice b 0 (len + m) (.opn sz))) ρ H a w → wpOps P ops Q rest a w) : wpOps P ops Q (i :: rest) a w := by
  obtain ⟨H', h1, h2, h3, h4⟩ := app_own (P := P) (H := H) hgr hm hm1 hl hnew hcs (h.has k hk) hm0
  refine step_v o d _ H' ho hg hd hdn h.sl h.rep (by rw [hop]; exact hop_app ht ht2 hd2 hx hy h1) fun ρ' a' w' hr hx' hS hdf _ => hn H.next ρ' H' a' w' ?_
  exact h.move hk hr hx' hS hdf (Nat.le_refl _) (by omega) h3 h4
/-- append to a nil row. -/
theorem sx_app0 (o : Oper) (d : Nat) (m : Nat) (new : List AV) {t el t2 : TypeId} {d2 : TypeDesc} {x y : Operand} {B : AV} {sz : Nat} (ho : ops[i]? = some o) (hg : o.guard = none) (hd : o.dst = some d) (hdn : d < n) (h : Sx P ρ0 H0 w0 n Wr Φ F ρ H a w)
    (hop : o.op = .call ⟨.builtin .append, ⟨[x, y]⟩, ⟨[t, t2]⟩⟩) (ht : elemOf P t = some el) (ht2 : P.underlying t2 = some d2) (hd2 : isIntD d2 = false) (hgr : growSize P el = some sz) (hx : envF F x = some .nils) (hy : envF F y = some B)
    (hm : lenOfA B = some m) (hm1 : m ≤ 67108864) (hnew : firstCells H sz m B = some new) (hm0 : m ≠ 0)
    (hn : ∀ b ρ H a w, Sx P ρ0 H0 w0 n Wr (Φ ++ [(b, new)]) (upd F d (.slice b 0 m (.opn sz))) ρ H a w → wpOps P ops Q rest a w) : wpOps P ops Q (i :: rest) a w := by
  refine sx_new o d (fun b => .slice b 0 m (.opn sz)) new ho hg hd hdn h ?_ hn
  obtain ⟨t', h1, h2⟩ := ofList_tot new
  refine ⟨_, ofList_content h1, fun H' ha => ?_⟩
  rw [hop]
  refine hop_app ht ht2 hd2 hx hy ?_
  show ob (growSize P el) _ = _
  rw [hgr]
  show ob (lenOfA B) _ = _
  rw [hm]
  show iteB (Nat.ble m 67108864) (ob (firstCells H sz m B) fun new => appTo H sz m new .nils) none = _
  have e1 : Nat.ble m 67108864 = true := by rw [Nat.ble_eq]; exact hm1
  rw [e1, iteB_true, hnew]
  show iteB (Nat.beq m 0) _ (ob (ofList new) fun o => allocV H o (.slice H.next 0 m (.opn sz))) = _
  have e3 : Nat.beq m 0 = false := by rw [beq_dec]; simp [hm0]
  rw [e3, iteB_false, h1]
  show ob (H.alloc _) _ = _
  rw [ha]; rfl
/-- append of nothing. -/
theorem hop_app_none {t el t2 : TypeId} {d2 : TypeDesc} {x y : Operand} {e : Env} {b len : Nat} {B : AV} {sz : Nat} {new : List AV} (ht : elemOf P t = some el) (ht2 : P.underlying t2 = some d2) (hd2 : isIntD d2 = false) (hgr : growSize P el = some sz) (hx : e x = some (.slice b 0 len (.opn sz))) (hy : e y = some B)
    (hm : lenOfA B = some 0) (hl : len ≤ 67108864) (hnew : firstCells H sz 0 B = some new) : opA P (.call ⟨.builtin .append, ⟨[x, y]⟩, ⟨[t, t2]⟩⟩) e H = some (.val (.slice b 0 len (.opn sz)) H) := by
  refine hop_app ht ht2 hd2 hx hy ?_
  show ob (growSize P el) _ = _
  rw [hgr]
  show ob (lenOfA B) _ = _
  rw [hm]
  show ob (some len) (fun m' => iteB (Nat.ble m' 67108864) (ob (firstCells H sz 0 B) fun new => appTo H sz 0 new (.slice b 0 len (.opn sz))) none) = _
  have e2 : Nat.ble len 67108864 = true := by rw [Nat.ble_eq]; exact hl
  rw [ob_mk, e2, iteB_true, hnew]; rfl
/-- A value's operation that leaves the heap. -/
theorem sx_v (o : Oper) (d : Nat) (v : AV) (ho : ops[i]? = some o) (hg : o.guard = none) (hd : o.dst = some d) (hdn : d < n) (h : Sx P ρ0 H0 w0 n Wr Φ F ρ H a w) (hop : opA P o.op (envF F) H = some (.val v H))
    (hn : ∀ ρ a w, Sx P ρ0 H0 w0 n Wr Φ (upd F d v) ρ H a w → wpOps P ops Q rest a w) : wpOps P ops Q (i :: rest) a w :=
  step_v o d v H ho hg hd hdn h.sl h.rep hop fun ρ' a' w' hr hx hS hdf _ => hn ρ' a' w' ⟨hS, hr, h.ext.trans hx, hdf.trans h.df, h.kp, h.hp, h.ds⟩
end
/-! ### More of what operations give -/
section
variable {e : Env}
theorem hop_bslice {t el : TypeId} {len s : Nat} {ps : Array (Nat × Operand)} {z zs cs : List AV} (ht : elemOf P t = some el) (hs : size P el = some s) (hz : zeroCells P el = some z) (hzl : z.length = s) (hr : rowOf z len = some zs) (hf : fillParts e (arrPlace s) ps.toList zs = some cs) (hb : len * s ≤ 65536) :
    ∃ ob, Content ob cs ∧ ∀ H', H.alloc ob = some H' → opA P (.buildSlice t len ps) e H = some (.val (.slice H.next 0 len (.fix len)) H') := by
  obtain ⟨t', h1, h2⟩ := ofList_tot cs
  refine ⟨_, ofList_content h1, fun H' ha => ?_⟩
  show ob (elemOf P t) _ = _
  rw [ht]
  show ob (size P el) _ = _
  rw [hs]
  show ob (zeroCells P el) _ = _
  rw [hz]
  show iteB (Nat.beq (lenL z 0) s) _ _ = _
  rw [lenL_zero, hzl, Nat.beq_refl, iteB_true, hr]
  show ob (fillParts e (arrPlace s) ps.toList zs) _ = _
  rw [hf]
  show ob (ofList cs) _ = _
  rw [h1]
  show iteB (Nat.ble (Nat.mul len s) 65536) _ _ = _
  have : Nat.ble (Nat.mul len s) 65536 = true := by rw [Nat.ble_eq]; exact hb
  rw [this]
  show ob (H.alloc _) _ = _
  rw [ha]; rfl
theorem hop_conv {s t : TypeId} {x : Operand} {ds : TypeDesc} {k k' : IntKind} {z : Int} (hs : P.underlying s = some ds) (ht : P.underlying t = some (.int k)) (hx : e x = some (.int k' z)) : opA P (.convert s t x) e H = some (.val (.int k (k.wrap z)) H) := by
  show ob (e x) _ = _
  rw [hx]
  show ob (P.underlying s) _ = _
  rw [hs]
  show ob (P.underlying t) _ = _
  rw [ht]
  show ob (mkInt k (wrapK k z)) _ = _
  rw [mkInt_mk, wrapK_eq]; rfl
theorem bin_shr {t : TypeId} {k k' : IntKind} {a : Int} {y : Nat} : binA P .shr t (.int k a) (.int k' (.ofNat y)) = some (.int k (Int.fdiv a (.ofNat (Nat.pow 2 (Nat.min y k.bits))))) := by
  show ob (some y) (fun y => shrA k a y) = _
  show mkInt k (Int.fdiv a (.ofNat (Nat.pow 2 (Nat.min y k.bits)))) = _
  rw [mkInt_mk]
/-- The head of an array, as a row. -/
theorem hop_slice_hi {t el : TypeId} {x y : Operand} {b off m h : Nat} {k : IntKind} (ht : P.underlying t = some (.array m el)) (hs : size P el = some 1) (hx : e x = some (.ptr b off)) (hy : e y = some (.int k (.ofNat h))) (hh : h ≤ m) : opA P (.slice t x none (some y) none) e H = some (.val (.slice b (shiftOff off 0 m 1) h (.fix m)) H) := by
  show ob (e x) _ = _
  rw [hx]
  show ob (P.underlying t) _ = _
  rw [ht]
  show ob (size P el) _ = _
  rw [hs]
  show ob (iteB true (ob (some m) fun m' => ob (ob (e y) AV.asNat) fun h => ob (some 0) fun l => iteB (Nat.ble l h) (iteB (Nat.ble h m') (iteB (Nat.ble m' m) (some (l, h, m')) none) none) none) none) _ = _
  rw [hy]
  show ob (iteB (Nat.ble 0 h) (iteB (Nat.ble h m) (iteB (Nat.ble m m) (some (0, h, m)) none) none) none) _ = _
  have e1 : Nat.ble 0 h = true := by rw [Nat.ble_eq]; omega
  have e2 : Nat.ble h m = true := by rw [Nat.ble_eq]; omega
  have e3 : Nat.ble m m = true := by rw [Nat.ble_eq]; omega
  rw [e1, e2, e3]; rfl
theorem hop_str0 {s t el : TypeId} {x : Operand} (hs : P.underlying s = some (.slice el)) (ht : P.underlying t = some .string) (hu : P.underlying el = some (.int .u8)) (hx : e x = some .nils) : opA P (.convert s t x) e H = some (.val (.str []) H) := by
  show ob (e x) _ = _
  rw [hx]
  show ob (P.underlying s) _ = _
  rw [hs]
  show ob (P.underlying t) _ = _
  rw [ht]
  show ob (elemOf P s) _ = _
  have : elemOf P s = some el := by unfold elemOf; rw [hs]; rfl
  rw [this]
  show ob (P.underlying el) _ = _
  rw [hu]; rfl
theorem hop_str {s t el : TypeId} {x : Operand} {b off len : Nat} {c : Cap} {cs : List AV} {l : List Nat} (hs : P.underlying s = some (.slice el)) (ht : P.underlying t = some .string) (hu : P.underlying el = some (.int .u8)) (hx : e x = some (.slice b off len c)) (hl : H.loadN b off len = some cs) (hm : mapO byteOf cs = some l) :
    opA P (.convert s t x) e H = some (.val (.str l) H) := by
  show ob (e x) _ = _
  rw [hx]
  show ob (P.underlying s) _ = _
  rw [hs]
  show ob (P.underlying t) _ = _
  rw [ht]
  show ob (elemOf P s) _ = _
  have : elemOf P s = some el := by unfold elemOf; rw [hs]; rfl
  rw [this]
  show ob (P.underlying el) _ = _
  rw [hu]
  show ob (H.loadN b off len) _ = _
  rw [hl]
  show ob (mapO byteOf cs) _ = _
  rw [hm]; rfl
end
/-! ### Bytes -/
def bytesAV (l : List Nat) : List AV := l.map fun (c : Nat) => AV.int .u8 (c : Int)
theorem mapO_bytes {l : List Nat} (h : ∀ c ∈ l, c < 256) : mapO byteOf (bytesAV l) = some l := by
  induction l with
  | nil => rfl
  | cons c l ih =>
    show ob (byteOf (.int .u8 (c : Int))) (fun y => ob (mapO byteOf (bytesAV l)) fun r => some (y :: r)) = _
    have hc := h c (by simp)
    have e1 : byteOf (.int .u8 (c : Int)) = some c := by
      show ob (some c) (fun c => iteB (Nat.blt c 256) (some c) none) = _
      have : Nat.blt c 256 = true := by rw [blt_dec]; simp [hc]
      rw [ob_mk, this]; rfl
    rw [e1, ih fun c hc => h c (by simp [hc])]; rfl
end Go.Vex
namespace Go.Vex
theorem hop_len_zsl {P : Program} {e : Env} {H : Hp} {t el : TypeId} {x : Operand} (ht : P.underlying t = some (.slice el)) (hx : e x = some .zsl) : opA P (.call ⟨.builtin .len, ⟨[x]⟩, ⟨[t]⟩⟩) e H = some (.val (.int .i64 (.ofNat 0)) H) := by
  show ob (ob (e x) fun y => ob (some []) fun r => some (y :: r)) _ = _
  rw [hx]
  show ob (P.underlying t) _ = _
  rw [ht]; rfl
/-- A row of nothing. -/
def Nl (V : AV) : Prop := V = .nils ∨ V = .zsl
theorem hop_len_nl {P : Program} {e : Env} {H : Hp} {t el : TypeId} {x : Operand} {V : AV} (hV : Nl V) (ht : P.underlying t = some (.slice el)) (hx : e x = some V) : opA P (.call ⟨.builtin .len, ⟨[x]⟩, ⟨[t]⟩⟩) e H = some (.val (.int .i64 (.ofNat 0)) H) := by
  rcases hV with rfl | rfl
  · show ob (ob (e x) fun y => ob (some []) fun r => some (y :: r)) _ = _
    rw [hx]
    show ob (P.underlying t) _ = _
    rw [ht]; rfl
  · exact hop_len_zsl ht hx
theorem hop_len_nil {P : Program} {e : Env} {H : Hp} {t el : TypeId} {x : Operand} (ht : P.underlying t = some (.slice el)) (hx : e x = some .nils) : opA P (.call ⟨.builtin .len, ⟨[x]⟩, ⟨[t]⟩⟩) e H = some (.val (.int .i64 (.ofNat 0)) H) := by
  show ob (ob (e x) fun y => ob (some []) fun r => some (y :: r)) _ = _
  rw [hx]
  show ob (P.underlying t) _ = _
  rw [ht]; rfl
end Go.Vex
namespace Go.Vex
variable {P : Program} {ρ ρ0 : Rho} {H H0 : Hp} {w w0 : World}
/-! ### Regions that draw their order, in walks by hand -/
theorem sameAV_refl_aux : ∀ (n : Nat), (∀ (a : AV), SizeOf.sizeOf a ≤ n → sameAV a a = true) ∧ (∀ (a : List AV), SizeOf.sizeOf a ≤ n → sameL a a = true) := by
  intro n
  induction n with
  | zero => exact ⟨fun a h => by cases a <;> simp at h, fun a h => by cases a <;> simp at h⟩
  | succ n ih =>
    refine ⟨fun a h => ?_, fun a h => ?_⟩
    · cases a with
      | bool b => simp [sameAV]
      | int k z => simp [sameAV, kEq_self, intEq_iff]
      | str s => simp [sameAV, strEq_iff]
      | ptr b o => simp [sameAV]
      | slice b i m c => cases c <;> simp [sameAV]
      | map b => simp [sameAV]
      | func f x y => simp at h; simp [sameAV, ih.2 x (by omega), ih.2 y (by omega)]
      | iface t v => simp at h; simp [sameAV, ih.1 v (by omega)]
      | agg l => simp at h; simp [sameAV, ih.2 l (by omega)]
      | tup l => simp at h; simp [sameAV, ih.2 l (by omega)]
      | _ => rfl
    · cases a with
      | nil => rfl
      | cons x l => simp at h; simp [sameL, ih.1 x (by omega), ih.2 l (by omega)]
theorem sameAV_refl (a : AV) : sameAV a a = true := (sameAV_refl_aux _).1 a (Nat.le_refl _)
/-- Slots as a trie. -/
noncomputable def tmOf (l : List (Nat × AV)) : Tm := l.foldl (fun t p => (T.set .any p.2 t p.1).getD t) .leaf
theorem tmOf_get : ∀ (l : List (Nat × AV)) (t0 : Tm) (t : Nat) (v : AV), (l.foldl (fun t p => (T.set .any p.2 t p.1).getD t) t0).get .any t = some v → t0.get .any t = some v ∨ ∃ p ∈ l, p.1 = t ∧ p.2 = v := by
  intro l
  induction l with
  | nil => intro t0 t v h; exact .inl h
  | cons p l ih =>
    intro t0 t v h
    rcases ih _ t v h with h | ⟨q, hq, h1⟩
    · obtain ⟨t1, h1⟩ := T.set_tot .any p.2 t0 p.1
      have h : ((T.set .any p.2 t0 p.1).getD t0).get .any t = some v := h
      rw [h1] at h
      have h : t1.get .any t = some v := h
      rw [T.set_get .any p.2 t0 p.1 t1 h1 t] at h
      by_cases e : t = p.1
      · rw [if_pos e] at h; injection h with h
        exact .inr ⟨p, by simp, e.symm, h⟩
      · rw [if_neg e] at h; exact .inl h
    · exact .inr ⟨q, List.mem_cons_of_mem _ hq, h1⟩
def noCall : CallF := fun _ _ _ => none
theorem noCall_ok : CallOK P noCall := fun f args H k h => by cases h
section
variable {n : Nat} {Wr : Nat → Prop} {Φ : List (Nat × List AV)} {F : SlF} {a : Act} {fi : FI} {call : CallF}
theorem Sx.sr (h : Sx P ρ0 H0 w0 n Wr Φ F ρ H a w) (l : List (Nat × AV)) (hl : AllP (fun p => F p.1 = some p.2) l) (mask : Nat) : SR P ρ ⟨n, mask⟩ [] ⟨tmOf l, [], H⟩ a w := by
  refine ⟨⟨h.sl.size, fun t v hv => ?_⟩, by rw [h.df]; exact .nil, h.rep⟩
  cases hg : isGlob mask t with
  | false => rw [look_loc hg] at hv; cases hv
  | true =>
    rw [look_glob hg] at hv
    rcases tmOf_get l .leaf t v hv with h1 | ⟨p, hp, rfl, rfl⟩
    · rw [T.get_leaf] at h1; injection h1 with h1; subst h1; exact .any _
    · exact h.sl.rel _ _ (hl.mem p hp)
/-- The plan is walked, a step at a time. -/
theorem draw_val {ops : List Oper} {q : Step} {l : List Step} {r : RS} {o : Oper} {v : AV} {H' : Hp} {r' : RS} {cr : CR} (ho : nth ops q.i = some o) (he : q.early = []) (hw : wanted ops o (r.env fi) = some true) (hop : opA P o.op (r.env fi) r.s.H = some (.val v H')) (hp : putR fi r o.dst v r.s.df H' = some r')
    (hag : againAll P fi ops r' q.again = true) (hrest : drawA P fi call ops l r' = some cr) : drawA P fi call ops (q :: l) r = some cr := by
  show drawOne P fi call ops q (drawA P fi call ops l) r = some cr
  unfold drawOne
  have e1 : earlyAll P fi ops r q.early = true := by rw [he]; rfl
  rw [e1, iteB_true, ho, ob_mk]
  have e2 : oneOp P fi call ops o r = some (.go r') := by
    unfold oneOp
    rw [hw, ob_mk, iteB_true, hop, ob_mk]
    show goRS (putR fi r o.dst v r.s.df H') = _
    rw [hp]; rfl
  rw [e2, ob_mk]
  show iteB (againAll P fi ops r' q.again) (drawA P fi call ops l r') none = _
  rw [hag]; exact hrest
theorem draw_skip {ops : List Oper} {q : Step} {l : List Step} {r : RS} {o : Oper} {H' : Hp} {r' : RS} {cr : CR} (ho : nth ops q.i = some o) (he : q.early = []) (hw : wanted ops o (r.env fi) = some true) (hop : opA P o.op (r.env fi) r.s.H = some (.skip H')) (hp : putR fi r o.dst .undef r.s.df H' = some r')
    (hag : againAll P fi ops r' q.again = true) (hrest : drawA P fi call ops l r' = some cr) : drawA P fi call ops (q :: l) r = some cr := by
  show drawOne P fi call ops q (drawA P fi call ops l) r = some cr
  unfold drawOne
  have e1 : earlyAll P fi ops r q.early = true := by rw [he]; rfl
  rw [e1, iteB_true, ho, ob_mk]
  have e2 : oneOp P fi call ops o r = some (.go r') := by
    unfold oneOp
    rw [hw, ob_mk, iteB_true, hop, ob_mk]
    show goRS (putR fi r o.dst .undef r.s.df H') = _
    rw [hp]; rfl
  rw [e2, ob_mk]
  show iteB (againAll P fi ops r' q.again) (drawA P fi call ops l r') none = _
  rw [hag]; exact hrest
theorem draw_call {ops : List Oper} {q : Step} {l : List Step} {r : RS} {o : Oper} {f : FuncId} {args : List AV} {v : AV} {H' : Hp} {r' : RS} {cr : CR} (ho : nth ops q.i = some o) (he : q.early = []) (hw : wanted ops o (r.env fi) = some true) (hop : opA P o.op (r.env fi) r.s.H = some (.call f args)) (hc : call f args r.s.H = some (.ret v H')) (hp : putR fi r o.dst v r.s.df H' = some r')
    (hag : againAll P fi ops r' q.again = true) (hrest : drawA P fi call ops l r' = some cr) : drawA P fi call ops (q :: l) r = some cr := by
  show drawOne P fi call ops q (drawA P fi call ops l) r = some cr
  unfold drawOne
  have e1 : earlyAll P fi ops r q.early = true := by rw [he]; rfl
  rw [e1, iteB_true, ho, ob_mk]
  have e2 : oneOp P fi call ops o r = some (.go r') := by
    unfold oneOp
    rw [hw, ob_mk, iteB_true, hop, ob_mk]
    show ob (call f args r.s.H) (goCall fi r o.dst) = _
    rw [hc]
    show goRS (putR fi r o.dst v r.s.df H') = _
    rw [hp]; rfl
  rw [e2, ob_mk]
  show iteB (againAll P fi ops r' q.again) (drawA P fi call ops l r') none = _
  rw [hag]; exact hrest
theorem again_cons {ops : List Oper} {r : RS} {q : Nat} {l : List Nat} {o : Oper} {d : Tmp} {v : AV} {H' : Hp} (ho : nth ops q = some o) (hw : wanted ops o (r.env fi) = some true) (hop : opA P o.op (r.env fi) r.s.H = some (.val v H')) (hd : o.dst = some d) (hv : r.env fi (.tmp d) = some v) (hl : againAll P fi ops r l = true) : againAll P fi ops r (q :: l) = true := by
  show iteB (againOne P fi ops r q) (againAll P fi ops r l) false = true
  have : againOne P fi ops r q = true := by
    unfold againOne
    rw [ho, ob_mk, hw, ob_mk, iteB_true, hop, ob_mk]
    show optRec false (fun b => b) (ob (some v) fun v => optRec none (fun d => ob (r.env fi (.tmp d)) fun u => some (sameAV v u)) o.dst) = true
    rw [ob_mk, hd]
    show optRec false (fun b => b) (ob (r.env fi (.tmp d)) fun u => some (sameAV v u)) = true
    rw [hv, ob_mk, sameAV_refl]; rfl
  rw [this, iteB_true]; exact hl
/-- The region is done. -/
theorem sx_draw (hm : P.follows .mixedOrders = true) (hc : CallOK P call) {id : Nat} {ops : Array Oper} {Q : Exit → Act → World → Prop} (mask : Nat) (l : List (Nat × AV)) (plan : List Step) (tm' : Tm) (H' : Hp) (h : Sx P ρ0 H0 w0 n Wr Φ F ρ H a w) (hl : AllP (fun p => F p.1 = some p.2) l)
    (hplan : drawPlan ops.toList = some plan) (hdr : drawA P ⟨n, mask⟩ call ops.toList plan ⟨[], tmOf l, [], H⟩ = some (.norm ⟨tm', [], H'⟩))
    (hk : ∀ ρ' a' w', EnvS ρ' ⟨n, mask⟩ [] tm' a'.tmps → a'.defers = [] → Rep ρ' H' w' → Ext ρ H w ρ' H' w' → Q .normal a' w') : (Code.region id ops true).wp P Q a w := by
  have hr : regionA P ⟨n, mask⟩ call ops.toList true ⟨tmOf l, [], H⟩ = some (.norm ⟨tm', [], H'⟩) := by
    show ob (drawPlan ops.toList) (fun l' => drawA P ⟨n, mask⟩ call ops.toList l' ⟨[], tmOf l, [], H⟩) = _
    rw [hplan]; exact hdr
  refine wp_mono (draw_ok hm hc ⟨n, mask⟩ id ops _ _ hr ρ a w (h.sr l hl mask)) fun e a' w' hp => ?_
  obtain ⟨rfl, ρ', hs, hx⟩ := hp
  exact hk ρ' a' w' hs.env (hs.df.nil_inv rfl) hs.rep hx
theorem EnvS.sl {mask : Nat} {tm : Tm} (hgl : (List.range n).all (isGlob mask) = true) (h : EnvS ρ ⟨n, mask⟩ [] tm a.tmps) (l : List (Nat × AV)) (hl : AllP (fun p => Nat.blt p.1 n = true ∧ tm.get .any p.1 = some p.2) l) : Sl ρ n (listF l) a := by
  refine ⟨h.size, fun t v hv => ?_⟩
  unfold listF at hv
  cases hf : l.find? fun p => Nat.beq p.1 t with
  | none => rw [hf] at hv; cases hv
  | some p =>
    rw [hf] at hv
    have hv : some p.2 = some v := hv
    injection hv with hv; subst hv
    have h1 := List.find?_some hf
    have := beq_eq h1; subst this
    obtain ⟨g1, g2⟩ := hl.mem p (List.mem_of_find?_eq_some hf)
    exact h.rel _ _ (by rw [look_glob (List.all_eq_true.1 hgl _ (List.mem_range.2 (blt_lt g1)))]; exact g2)
end
end Go.Vex
namespace Go.Vex
def opsOf (c : Code) : List Oper := match c with | .region _ ops _ => ops.toList | _ => []
section
variable {P : Program} {e : Env} {H : Hp}
theorem hop_index_str {t : TypeId} {x i : Operand} {j c : Nat} {k : IntKind} {s : List Nat} (ht : ixKind P t = some .strg) (hx : e x = some (.str s)) (hi : e i = some (.int k (.ofNat j))) (hv : s[j]? = some c) : opA P (.index t x i) e H = some (.val (.int .u8 (c : Int)) H) := by
  show ob (ixKind P t) _ = _
  rw [ht]
  show ob (e x) _ = _
  rw [hx]
  show ob (e i) _ = _
  rw [hi]
  show ob (ob (nth s j) fun c => byteAV c) _ = _
  rw [nth_eq, hv]; rfl
theorem takeL_ok {α : Type} : ∀ (n : Nat) (l : List α), n ≤ l.length → takeL n l = some (l.take n) := by
  intro n
  induction n with
  | zero => intro l _; rw [List.take_zero]; rfl
  | succ n ih =>
    intro l h
    cases l with
    | nil => simp at h
    | cons x l =>
      show ob (takeL n l) (fun r => some (x :: r)) = _
      rw [ih l (by simpa using h)]; rfl
theorem hop_slice_str {t : TypeId} {x y : Operand} {j : Nat} {k : IntKind} {s : List Nat} (ht : P.underlying t = some .string) (hx : e x = some (.str s)) (hy : e y = some (.int k (.ofNat j))) (hj : j ≤ s.length) : opA P (.slice t x (some y) none none) e H = some (.val (.str (s.drop j)) H) := by
  show ob (e x) _ = _
  rw [hx]
  show ob (P.underlying t) _ = _
  rw [ht]
  show ob (iteB true (ob (some (lenL s 0)) fun m => ob (some (lenL s 0)) fun h => ob (ob (e y) AV.asNat) fun l => iteB (Nat.ble l h) (iteB (Nat.ble h m) (iteB (Nat.ble m (lenL s 0)) (some (l, h, m)) none) none) none) none) _ = _
  rw [hy, lenL_zero]
  show ob (iteB (Nat.ble j s.length) (iteB (Nat.ble s.length s.length) (iteB (Nat.ble s.length s.length) (some (j, s.length, s.length)) none) none) none) _ = _
  have e1 : Nat.ble j s.length = true := by rw [Nat.ble_eq]; exact hj
  have e2 : Nat.ble s.length s.length = true := by rw [Nat.ble_eq]; exact Nat.le_refl _
  rw [e1, e2]
  show ob (takeL (Nat.sub s.length j) (dropL j s)) _ = _
  rw [dropL_eq, takeL_ok _ _ (by rw [List.length_drop]; exact Nat.le_refl _)]
  have : (s.drop j).take (Nat.sub s.length j) = s.drop j := List.take_of_length_le (by rw [List.length_drop]; exact Nat.le_refl _)
  rw [this]; rfl
end
end Go.Vex
namespace Go.Vex
section
variable {P : Program} {ρ ρ0 : Rho} {H H0 : Hp} {w w0 : World} {n : Nat} {Wr : Nat → Prop} {Φ : List (Nat × List AV)} {F F' : SlF} {a a' : Act}
theorem Sx.act (h : Sx P ρ0 H0 w0 n Wr Φ F ρ H a w) (hS : Sl ρ n F' a') (hd : a'.defers = []) : Sx P ρ0 H0 w0 n Wr Φ F' ρ H a' w := ⟨hS, h.rep, h.ext, hd, h.kp, h.hp, h.ds⟩
theorem Sx.noS (h : Sx P ρ0 H0 w0 n Wr Φ F ρ H a w) (ρ' : Rho) : Sl ρ' n (fun _ => none) a := ⟨h.sl.size, fun t v hv => by cases hv⟩
/-- Behind a drawn region that turns one block. -/
theorem Sx.turnD (h : Sx P ρ0 H0 w0 n Wr Φ F ρ H a w) {k b : Nat} {cs cs' : List AV} (hk : Φ[k]? = some (b, cs)) {ρ' : Rho} {H' : Hp} {w' : World} (hr : Rep ρ' H' w') (hx : Ext ρ H w ρ' H' w') (h2 : H.next ≤ H'.next) (h3 : ∀ c, c < H.next → c ≠ b → H'.fn c = H.fn c) (h4 : Content (H'.fn b) cs') (hS : Sl ρ' n F' a') (hd : a'.defers = []) :
    Sx P ρ0 H0 w0 n Wr (Φ.set k (b, cs')) F' ρ' H' a' w' := (h.turn hk hr hx (h.noS ρ') h2 h3 h4).act hS hd
/-- Behind a drawn region that leaves the heap. -/
theorem Sx.stayD (h : Sx P ρ0 H0 w0 n Wr Φ F ρ H a w) {ρ' : Rho} {w' : World} (hr : Rep ρ' H w') (hx : Ext ρ H w ρ' H w') (hS : Sl ρ' n F' a') (hd : a'.defers = []) : Sx P ρ0 H0 w0 n Wr Φ F' ρ' H a' w' := (h.stay hr hx fun _ _ => rfl).act hS hd
end
end Go.Vex
