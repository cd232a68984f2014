/-
  Regions that draw their order.
  No condition.
-/
import Derived.Test.YtmpabjogookkpaaGreatVxE
set_option linter.unusedVariables false
namespace Go.Vex
noncomputable abbrev MS (ops : Array Oper) : List Nat := befAll ops.toList []
noncomputable abbrev KS (ops : Array Oper) : List Kd := ops.toList.map fun o => kindOf o.op
def dst (ops : Array Oper) (k : Nat) : Option Tmp := (ops[k]?).bind (·.dst)
/-- A slot is written ahead of an operation. -/
def W (ops : Array Oper) (k : Nat) (d : Tmp) : Prop := ∃ i, Bef (MS ops) i k ∧ dst ops i = some d
open Classical in
/-- What an operation finds in a slot. -/
noncomputable def preV (ops : Array Oper) (a0 a : Act) (k : Nat) (d : Tmp) : Value := if W ops k d then a.tmps.getD d undef else a0.tmps.getD d undef
open Classical in
noncomputable def preA (fi : FI) (ops : Array Oper) (s0 : St) (r : RS) (k : Nat) : Env := fun x => match x with
  | .tmp d => if W ops k d then r.env fi (.tmp d) else look fi.mask [] s0.tm d
  | x => r.env fi x
theorem preA_pos {fi : FI} {ops : Array Oper} {s0 : St} {r : RS} {k : Nat} {d : Tmp} (h : W ops k d) : preA fi ops s0 r k (.tmp d) = r.env fi (.tmp d) := if_pos h
theorem preA_neg {fi : FI} {ops : Array Oper} {s0 : St} {r : RS} {k : Nat} {d : Tmp} (h : ¬ W ops k d) : preA fi ops s0 r k (.tmp d) = look fi.mask [] s0.tm d := if_neg h
theorem preV_pos {ops : Array Oper} {a0 a : Act} {k : Nat} {d : Tmp} (h : W ops k d) : preV ops a0 a k d = a.tmps.getD d undef := if_pos h
theorem preV_neg {ops : Array Oper} {a0 a : Act} {k : Nat} {d : Tmp} (h : ¬ W ops k d) : preV ops a0 a k d = a0.tmps.getD d undef := if_neg h
def Base (e : Env) : Prop := (∀ c, e (.const c) = cv c) ∧ (∀ g, e (.global g) = none) ∧ ∀ f, e (.func f) = some (.func f [] [])
theorem base_env (fi : FI) (r : RS) : Base (r.env fi) := ⟨fun _ => rfl, fun _ => rfl, fun _ => rfl⟩
theorem base_pre (fi : FI) (ops : Array Oper) (s0 : St) (r : RS) (k : Nat) : Base (preA fi ops s0 r k) := ⟨fun _ => rfl, fun _ => rfl, fun _ => rfl⟩
section
variable {P : Program} {ρ : Rho} {H : Hp} {w : World} {fi : FI} {ops : Array Oper} {ρ0 : Rho} {s0 : St} {a0 : Act} {w0 : World}
theorem opd_mem {L : List Oper} {o : Oper} {d : Tmp} (h : Operand.tmp d ∈ o.op.operands) : d ∈ slotsOf L o := by
  unfold slotsOf
  exact List.mem_append_left _ (List.mem_filterMap.2 ⟨.tmp d, by simpa using h, rfl⟩)
theorem guard_mem {L : List Oper} {o : Oper} {d : Tmp} (h : guardOf L o = some d) : d ∈ slotsOf L o := by
  unfold slotsOf
  refine List.mem_append_right _ ?_
  unfold guardOf at h
  cases hg : o.guard with
  | none => rw [hg] at h; cases h
  | some g =>
    rw [hg] at h
    simp only [Option.bind_some] at h
    simp only [nth_eq]
    rw [h]; simp
theorem opds_rel {e : Env} (hb : Base e) {L : List Oper} {o : Oper} {ae : Act} (h : ∀ d ∈ slotsOf L o, ∀ v, e (.tmp d) = some v → RV ρ v (ae.tmps.getD d undef)) : ∀ x ∈ o.op.operands, ∀ v, e x = some v → RV ρ v (ae.eval x) := by
  intro x hx v hv
  cases x with
  | tmp d => exact h d (opd_mem hx) v hv
  | const c => rw [hb.1] at hv; exact cv_flat hv ρ
  | global g => rw [hb.2.1] at hv; cases hv
  | func f => rw [hb.2.2] at hv; injection hv with hv; subst hv; exact .func (va := []) (vc := []) .nil .nil
theorem opds_eq {e e' : Env} (hb : Base e) (hb' : Base e') {L : List Oper} {o : Oper} (h : ∀ d ∈ slotsOf L o, e (.tmp d) = e' (.tmp d)) : ∀ x ∈ o.op.operands, e x = e' x := by
  intro x hx
  cases x with
  | tmp d => exact h d (opd_mem hx)
  | const c => rw [hb.1, hb'.1]
  | global g => rw [hb.2.1, hb'.2.1]
  | func f => rw [hb.2.2, hb'.2.2]
theorem wanted_congr {e e' : Env} {L : List Oper} {o : Oper} (h : ∀ d ∈ slotsOf L o, e (.tmp d) = e' (.tmp d)) : wanted L o e = wanted L o e' := by
  unfold wanted
  cases hg : o.guard with
  | none => rfl
  | some g =>
    show wantedAt L e g = wantedAt L e' g
    unfold wantedAt
    cases hs : guardSlot L g.1 with
    | none => rfl
    | some d =>
      have : guardOf L o = some d := by
        unfold guardOf
        rw [hg]
        obtain ⟨o', ho', hd'⟩ := ob_some hs
        rw [nth_eq] at ho'
        simp only [Option.bind_some, ho', hd']
      show (ob (e (.tmp d)) fun v => isB v g.2) = (ob (e' (.tmp d)) fun v => isB v g.2)
      rw [h d (guard_mem this)]
theorem kd_eq {k : Nat} {o : Oper} (h : ops[k]? = some o) : kd (KS ops) k = kindOf o.op := by
  unfold kd KS
  rw [nth_eq]
  simp [h]
theorem dstOf_eq (k : Nat) : dstOf ops.toList k = dst ops k := by
  unfold dstOf dst
  rw [nth_eq]; simp
/-- A quiet operation that the plan has done gives the same now. -/
def Fq (P : Program) (fi : FI) (ops : Array Oper) (s0 : St) (r : RS) (k : Nat) : Prop :=
  ∀ o, ops[k]? = some o → ∃ b, wanted ops.toList o (preA fi ops s0 r k) = some b ∧
    (b = true → ∃ x v, opA P o.op (preA fi ops s0 r k) r.s.H = some x ∧ valOf x = some v ∧ ∀ d, o.dst = some d → r.env fi (.tmp d) = some v) ∧
    (b = false → ∀ d, o.dst = some d → r.env fi (.tmp d) = some .undef)
/-- An operation that was run ahead of its place in the plan. -/
def Early (P : Program) (ops : Array Oper) (w0 : World) (a0 : Act) (ρ : Rho) (H : Hp) (rr : Nat → Option Nat) (a : Act) (w : World) (k : Nat) : Prop :=
  ∀ o, ops[k]? = some o → ∃ ae : Act, (∀ d ∈ slotsOf ops.toList o, ae.tmps.getD d undef = preV ops a0 a k d) ∧
    (Region.wanted o (yielded ops ae.tmps) = false → ∀ d, o.dst = some d → d < a.tmps.size → a.tmps.getD d undef = undef) ∧
    (Region.wanted o (yielded ops ae.tmps) = true →
      (kindOf o.op = .pure → ∃ u, (∀ w, (execOp ae.eval o).run P w = .ok (.value u) w) ∧ ∀ d, o.dst = some d → d < a.tmps.size → a.tmps.getD d undef = u) ∧
      (kindOf o.op = .alloc → ∃ u ob we, (execOp ae.eval o).run P we = .ok (.value u) (World.new we ob) ∧ rr k = some we.heap.size ∧ w0.heap.size ≤ we.heap.size ∧ w.heap[we.heap.size]? = some ob ∧ Un ρ H we.heap.size ∧
        ∀ d, o.dst = some d → d < a.tmps.size → a.tmps.getD d undef = u))
structure Inv (P : Program) (fi : FI) (ops : Array Oper) (ρ0 : Rho) (s0 : St) (a0 : Act) (w0 : World) (ahead : List Nat) (rest : List Step) (r : RS) (ρ : Rho) (rr : Nat → Option Nat) (D : Nat → Prop) (a : Act) (w : World) : Prop where
  steps : stepsOK ops.toList (KS ops) (MS ops) ahead rest = true
  nd : ahead.Nodup
  cnt : ahead.length + rest.length = ops.size
  alt : ∀ k ∈ ahead, k < ops.size
  acl : ∀ k ∈ ahead, ∀ i, Bef (MS ops) i k → i ∈ ahead
  dn : ∀ k ∈ ahead, ∀ d, dst ops k = some d → d < fi.n
  dlt : ∀ k, D k → k < ops.size
  dcl : ∀ k, D k → ∀ i, Bef (MS ops) i k → D i
  i2 : ∀ k ∈ ahead, kd (KS ops) k = .loud ∨ kd (KS ops) k = .alloc → D k
  i3 : ∀ k, D k → k ∉ ahead → kd (KS ops) k = .alloc ∨ kd (KS ops) k = .pure
  rep : Rep ρ r.s.H w
  ext : Ext ρ0 s0.H w0 ρ r.s.H w
  df : DfR P ρ r.s.df a.defers
  size : a.tmps.size = fi.n
  i5 : ∀ k ∈ ahead, D k → ∀ d, dst ops k = some d → ∀ v, r.env fi (.tmp d) = some v → RV ρ v (a.tmps.getD d undef)
  i6 : ∀ d, (∀ k, D k → dst ops k ≠ some d) → a.tmps.getD d undef = a0.tmps.getD d undef
  i7 : ∀ d, (∀ k ∈ ahead, dst ops k ≠ some d) → r.env fi (.tmp d) = look fi.mask [] s0.tm d
  i8 : ∀ k ∈ ahead, ¬ D k → Fq P fi ops s0 r k
  i9 : ∀ k, D k → k ∉ ahead → Early P ops w0 a0 ρ r.s.H rr a w k
  inj : ∀ k k' x, rr k = some x → rr k' = some x → D k → D k' → k ∉ ahead → k' ∉ ahead → k = k'
  rlt : ∀ k x, rr k = some x → x < w.heap.size
/-- What is fixed. -/
structure Fx (ops : Array Oper) (fi : FI) (ρ0 : Rho) (s0 : St) (a0 : Act) (w0 : World) : Prop where
  slots : slotsOK ops.toList (MS ops) = true
  edges : edgesOK ops.toList = true
  env : EnvS ρ0 fi [] s0.tm a0.tmps
  ror : ∀ b n d t, s0.H.fn b = .ro n d t → 0 < n → ∃ r y, ρ0 b = some (r, y) ∧ r < w0.heap.size
theorem Fx.uniq (hx : Fx ops fi ρ0 s0 a0 w0) {i j : Nat} {d : Tmp} (hi : dst ops i = some d) (hj : dst ops j = some d) : i = j := by
  unfold dst at hi hj
  cases ho : ops[i]? with
  | none => rw [ho] at hi; cases hi
  | some oi =>
    cases ho' : ops[j]? with
    | none => rw [ho'] at hj; cases hj
    | some oj =>
      rw [ho] at hi; rw [ho'] at hj
      rcases Nat.decEq i j with hne | he
      · exact absurd hj (slotsOK_inv hx.slots (i := i) (j := j) (by simpa using ho) (by simpa using ho') hne hi).1
      · exact he
/-- Who writes a slot that an operation looks at stands ahead of it or behind it. -/
theorem Fx.look (hx : Fx ops fi ρ0 s0 a0 w0) {i k : Nat} {o : Oper} (ho : ops[k]? = some o) {d : Tmp} (hd : d ∈ slotsOf ops.toList o) (hi : dst ops i = some d) (hne : i ≠ k) : Bef (MS ops) i k ∨ Bef (MS ops) k i := by
  unfold dst at hi
  cases hoi : ops[i]? with
  | none => rw [hoi] at hi; cases hi
  | some oi =>
    rw [hoi] at hi
    exact (slotsOK_inv hx.slots (i := i) (j := k) (by simpa using hoi) (by simpa using ho) hne hi).2 hd
variable {ahead : List Nat} {rest : List Step} {r : RS} {rr : Nat → Option Nat} {D : Nat → Prop} {a : Act}
/-- The slots of an operation that is not done are as it finds them. -/
theorem Inv.cur (hx : Fx ops fi ρ0 s0 a0 w0) (h : Inv P fi ops ρ0 s0 a0 w0 ahead rest r ρ rr D a w) {k : Nat} {o : Oper} (ho : ops[k]? = some o) (hk : ¬ D k) {d : Tmp} (hd : d ∈ slotsOf ops.toList o) : a.tmps.getD d undef = preV ops a0 a k d := by
  unfold preV
  split
  · rfl
  · rename_i hw
    refine h.i6 d fun i hi hdi => ?_
    rcases hx.look ho hd hdi (fun e => hk (e ▸ hi)) with hb | hb
    · exact hw ⟨i, hb, hdi⟩
    · exact hk (h.dcl i hi k hb)
/-- The same of the plan. -/
theorem Inv.curA (hx : Fx ops fi ρ0 s0 a0 w0) (h : Inv P fi ops ρ0 s0 a0 w0 ahead rest r ρ rr D a w) {k : Nat} {o : Oper} (ho : ops[k]? = some o) (hk : k ∉ ahead) {d : Tmp} (hd : d ∈ slotsOf ops.toList o) : r.env fi (.tmp d) = preA fi ops s0 r k (.tmp d) := by
  by_cases hw : W ops k d
  · rw [preA_pos hw]
  · rw [preA_neg hw]
    refine h.i7 d fun i hi hdi => ?_
    rcases hx.look ho hd hdi (fun e => hk (e ▸ hi)) with hb | hb
    · exact hw ⟨i, hb, hdi⟩
    · exact hk (h.acl i hi k hb)
/-- What an operation finds is related, if all ahead of it is done, in the plan too. -/
theorem Inv.rel (hx : Fx ops fi ρ0 s0 a0 w0) (h : Inv P fi ops ρ0 s0 a0 w0 ahead rest r ρ rr D a w) {k : Nat} (hp : ∀ i, Bef (MS ops) i k → D i ∧ i ∈ ahead) (d : Tmp) (v : AV) (hv : preA fi ops s0 r k (.tmp d) = some v) : RV ρ v (preV ops a0 a k d) := by
  by_cases hw : W ops k d
  · rw [preA_pos hw] at hv
    rw [preV_pos hw]
    obtain ⟨i, hb, hdi⟩ := hw
    exact h.i5 i (hp i hb).2 (hp i hb).1 d hdi v hv
  · rw [preA_neg hw] at hv
    rw [preV_neg hw]
    exact (hx.env.rel d v hv).mono h.ext.sub
end
end Go.Vex
namespace Go.Vex
variable {P : Program} {ρ : Rho} {H : Hp} {w : World} {fi : FI} {ops : Array Oper} {ρ0 : Rho} {s0 : St} {a0 : Act} {w0 : World}
variable {ahead : List Nat} {rest : List Step} {r : RS} {rr : Nat → Option Nat} {D : Nat → Prop} {a : Act}
theorem env_put {r' : RS} {t : Option Tmp} {v : AV} {df : List (FuncId × List AV)} {H' : Hp} (h : putR fi r t v df H' = some r') (d : Tmp) : r'.env fi (.tmp d) = if t = some d then some v else r.env fi (.tmp d) := by
  obtain ⟨_, _, h1⟩ := putR_inv h
  show look fi.mask r'.L r'.s.tm d = if t = some d then some v else look fi.mask r.L r.s.tm d
  rcases h1 with ⟨rfl, e3, e4⟩ | ⟨d', rfl, hp⟩
  · rw [e3, e4]; simp
  · rw [(putAt_look hp).2]
    by_cases e : d = d'
    · subst e; simp
    · rw [if_neg e, if_neg (by intro e'; injection e' with e'; exact e e'.symm)]
theorem dst_of {k : Nat} {o : Oper} (ho : ops[k]? = some o) : dst ops k = o.dst := by unfold dst; rw [ho]; rfl
/-- What of the plan goes on. -/
structure PlanN (fi : FI) (ops : Array Oper) (s0 : St) (ahead : List Nat) (s : Step) (rest : List Step) (r r' : RS) : Prop where
  steps : stepsOK ops.toList (KS ops) (MS ops) (s.i :: ahead) rest = true
  nd : (s.i :: ahead).Nodup
  cnt : (s.i :: ahead).length + rest.length = ops.size
  alt : ∀ k ∈ s.i :: ahead, k < ops.size
  acl : ∀ k ∈ s.i :: ahead, ∀ i, Bef (MS ops) i k → i ∈ s.i :: ahead
  dn : ∀ k ∈ s.i :: ahead, ∀ d, dst ops k = some d → d < fi.n
  pre : ∀ i, Bef (MS ops) i s.i → i ∈ ahead
  i7 : ∀ d, (∀ k ∈ s.i :: ahead, dst ops k ≠ some d) → r'.env fi (.tmp d) = look fi.mask [] s0.tm d
  env : ∀ k ∈ ahead, ∀ d, dst ops k = some d → r'.env fi (.tmp d) = r.env fi (.tmp d)
  preA : ∀ k ∈ s.i :: ahead, preA fi ops s0 r' k = preA fi ops s0 r k
theorem Inv.plan (hx : Fx ops fi ρ0 s0 a0 w0) {s : Step} (h : Inv P fi ops ρ0 s0 a0 w0 ahead (s :: rest) r ρ rr D a w) {o : Oper} (ho : ops[s.i]? = some o) {r' : RS} {v : AV} {df : List (FuncId × List AV)} {H' : Hp} (hp : putR fi r o.dst v df H' = some r') : PlanN fi ops s0 ahead s rest r r' := by
  have hf := headF h.steps
  have hlt : s.i < ops.size := by simpa using hf.lt
  have hpre : ∀ i, Bef (MS ops) i s.i → i ∈ ahead := fun i hb => hf.pre i (by have := bef_lt hx.edges s.i i o (by simpa using ho) hb; simp; omega) hb
  have henv : ∀ k ∈ ahead, ∀ d, dst ops k = some d → r'.env fi (.tmp d) = r.env fi (.tmp d) := by
    intro k hk d hd
    rw [env_put hp, if_neg]
    intro e
    have := hx.uniq hd ((dst_of ho).trans e)
    exact hf.nin (this ▸ hk)
  refine ⟨hf.tail, List.nodup_cons.2 ⟨hf.nin, h.nd⟩, by have := h.cnt; simp at this ⊢; omega, ?_, ?_, ?_, hpre, ?_, henv, ?_⟩
  · intro k hk
    rcases List.mem_cons.1 hk with rfl | hk
    · exact hlt
    · exact h.alt k hk
  · intro k hk i hb
    rcases List.mem_cons.1 hk with rfl | hk
    · exact List.mem_cons_of_mem _ (hpre i hb)
    · exact List.mem_cons_of_mem _ (h.acl k hk i hb)
  · intro k hk d hd
    rcases List.mem_cons.1 hk with rfl | hk
    · rw [dst_of ho] at hd
      rcases (putR_inv hp).2.2 with ⟨e, _⟩ | ⟨d', e, hp'⟩
      · rw [e] at hd; cases hd
      · rw [e] at hd; injection hd with hd; subst hd
        exact (putAt_look hp').1
    · exact h.dn k hk d hd
  · intro d hd
    rw [env_put hp, if_neg (by have := hd s.i (by simp); rwa [dst_of ho] at this)]
    exact h.i7 d fun k hk => hd k (List.mem_cons_of_mem _ hk)
  · intro k hk
    have hp : ∀ i, Bef (MS ops) i k → i ∈ ahead := by
      rcases List.mem_cons.1 hk with rfl | hk
      · exact hpre
      · exact h.acl k hk
    funext x
    cases x with
    | tmp d =>
      by_cases hw : W ops k d
      · rw [preA_pos hw, preA_pos hw]
        obtain ⟨i, hb, hd⟩ := hw
        exact henv i (hp i hb) d hd
      · rw [preA_neg hw, preA_neg hw]
    | _ => rfl
/-- The heap is the same. -/
theorem Fq.keep {s : Step} {r' : RS} (hn : PlanN fi ops s0 ahead s rest r r') (hH : r'.s.H = r.s.H) {k : Nat} (hk : k ∈ ahead) (h : Fq P fi ops s0 r k) : Fq P fi ops s0 r' k := by
  intro o ho
  obtain ⟨b, h1, h2, h3⟩ := h o ho
  have e := hn.preA k (List.mem_cons_of_mem _ hk)
  have henv : ∀ d, o.dst = some d → r'.env fi (.tmp d) = r.env fi (.tmp d) := fun d hd => hn.env k hk d ((dst_of ho).trans hd)
  refine ⟨b, by rw [e]; exact h1, fun hb => ?_, fun hb d hd => by rw [henv d hd]; exact h3 hb d hd⟩
  obtain ⟨x, v, q1, q2, q3⟩ := h2 hb
  exact ⟨x, v, by rw [e, hH]; exact q1, q2, fun d hd => by rw [henv d hd]; exact q3 d hd⟩
/-- An operation that looks at no memory. -/
theorem pure_any {o : Oper} (hk : kindOf o.op = .pure) {e : Env} {H' : Hp} {x : OR} {v : AV} (h : opA P o.op e H = some x) (hv : valOf x = some v) : ∃ x', opA P o.op e H' = some x' ∧ valOf x' = some v := by
  have key : ∀ y, opMove e H y = some x → ∃ x', opMove e H' y = some x' ∧ valOf x' = some v := by
    intro y h
    obtain ⟨u, hu, h1⟩ := ob_some h
    have := valH_inv h1
    subst this
    injection hv with hv; subst hv
    exact ⟨.val u H', by unfold opMove; rw [hu]; rfl, rfl⟩
  cases ho : o.op with
  | move y => rw [ho] at h; exact key y h
  | assign y => rw [ho] at h; exact key y h
  | call c =>
    rw [ho] at hk
    obtain ⟨cal, cargs, ats⟩ := c
    cases cal with
    | builtin b => cases b <;> cases hk
    | _ => cases hk
  | _ => rw [ho] at hk; cases hk
theorem Fq.pure {s : Step} {r' : RS} (hn : PlanN fi ops s0 ahead s rest r r') {k : Nat} (hk : k ∈ ahead) (hkd : kd (KS ops) k = .pure) (h : Fq P fi ops s0 r k) : Fq P fi ops s0 r' k := by
  intro o ho
  obtain ⟨b, h1, h2, h3⟩ := h o ho
  have e := hn.preA k (List.mem_cons_of_mem _ hk)
  have henv : ∀ d, o.dst = some d → r'.env fi (.tmp d) = r.env fi (.tmp d) := fun d hd => hn.env k hk d ((dst_of ho).trans hd)
  refine ⟨b, by rw [e]; exact h1, fun hb => ?_, fun hb d hd => by rw [henv d hd]; exact h3 hb d hd⟩
  obtain ⟨x, v, q1, q2, q3⟩ := h2 hb
  rw [kd_eq ho] at hkd
  obtain ⟨x', q1', q2'⟩ := pure_any (H' := r'.s.H) hkd q1 q2
  exact ⟨x', v, by rw [e]; exact q1', q2', fun d hd => by rw [henv d hd]; exact q3 d hd⟩
/-- An operation of the plan is looked at once more. -/
theorem againAll_mem {ops : List Oper} {l : List Nat} (h : againAll P fi ops r l = true) {q : Nat} (hq : q ∈ l) : againOne P fi ops r q = true := by
  induction l with
  | nil => cases hq
  | cons x l ih =>
    have h : iteB (againOne P fi ops r x) (againAll P fi ops r l) false = true := h
    cases hx : againOne P fi ops r x with
    | false => rw [hx] at h; cases h
    | true =>
      rw [hx] at h
      rcases List.mem_cons.1 hq with rfl | hq
      · exact hx
      · exact ih h hq
theorem Fq.again {s : Step} {r' : RS} (hn : PlanN fi ops s0 ahead s rest r r') {k : Nat} (hk : k ∈ ahead) (hag : againOK ops.toList (MS ops) (s.i :: ahead) k = true) (h1 : againOne P fi ops.toList r' k = true) (h : Fq P fi ops s0 r k) : Fq P fi ops s0 r' k := by
  intro o ho
  obtain ⟨b, g1, g2, g3⟩ := h o ho
  have e := hn.preA k (List.mem_cons_of_mem _ hk)
  have henv : ∀ d, o.dst = some d → r'.env fi (.tmp d) = r.env fi (.tmp d) := fun d hd => hn.env k hk d ((dst_of ho).trans hd)
  have hsl : ∀ d ∈ slotsOf ops.toList o, r'.env fi (.tmp d) = preA fi ops s0 r' k (.tmp d) := by
    intro d hd
    by_cases hw : W ops k d
    · rw [preA_pos hw]
    · rw [preA_neg hw]
      refine hn.i7 d fun i hi hdi => hw ⟨i, ?_, hdi⟩
      exact againOK_inv (by simpa using ho) hag hd hi ((dstOf_eq i).trans hdi)
  have hw1 : wanted ops.toList o (r'.env fi) = some b := by rw [wanted_congr hsl, e]; exact g1
  refine ⟨b, by rw [e]; exact g1, fun hb => ?_, fun hb d hd => by rw [henv d hd]; exact g3 hb d hd⟩
  subst hb
  unfold againOne at h1
  have hn1 : nth ops.toList k = some o := by rw [nth_eq]; simpa using ho
  rw [hn1] at h1
  simp only [ob_mk, hw1, iteB_true] at h1
  have hop : opA P o.op (r'.env fi) r'.s.H = opA P o.op (preA fi ops s0 r' k) r'.s.H := opA_congr (opds_eq (base_env fi r') (base_pre fi ops s0 r' k) hsl)
  cases hx : opA P o.op (r'.env fi) r'.s.H with
  | none => rw [hx] at h1; cases h1
  | some x =>
    rw [hx] at h1
    simp only [ob_mk] at h1
    cases hv : valOf x with
    | none => rw [hv] at h1; cases h1
    | some v =>
      rw [hv] at h1
      simp only [ob_mk] at h1
      refine ⟨x, v, by rw [← hop]; exact hx, hv, fun d hd => ?_⟩
      rw [hd] at h1
      simp only [optRec_some] at h1
      cases hu : r'.env fi (.tmp d) with
      | none => rw [hu] at h1; cases h1
      | some u =>
        rw [hu] at h1
        have h1 : sameAV v u = true := h1
        rw [sameAV_eq h1]
/-! ### The plan goes on -/
theorem one_inv {call : CallF} {L : List Oper} {o : Oper} {x : RR} (h : oneOp P fi call L o r = some x) : ∃ b, wanted L o (r.env fi) = some b ∧
    (b = true → ∃ y out, opA P o.op (r.env fi) r.s.H = some y ∧ outOf call r.s.df r.s.H y = some out ∧ outRR fi r o.dst out = some x) ∧
    (b = false → ∃ r', putR fi r o.dst .undef r.s.df r.s.H = some r' ∧ x = .go r') := by
  obtain ⟨b, hb, h1⟩ := ob_some h
  refine ⟨b, hb, fun e => ?_, fun e => ?_⟩
  · subst e
    obtain ⟨y, hy, h2⟩ := ob_some (x := opA P o.op (r.env fi) r.s.H) h1
    obtain ⟨out, q1, q2⟩ := goOp_out h2
    exact ⟨y, out, hy, q1, q2⟩
  · subst e
    obtain ⟨r', hr', h2⟩ := ob_some (x := putR fi r o.dst .undef r.s.df r.s.H) h1
    injection h2 with h2
    exact ⟨r', hr', h2.symm⟩
/-- A quiet operation, done in the plan and not in the run. -/
theorem Inv.quiet (hx : Fx ops fi ρ0 s0 a0 w0) {call : CallF} {s : Step} (h : Inv P fi ops ρ0 s0 a0 w0 ahead (s :: rest) r ρ rr D a w) {o : Oper} (ho : ops[s.i]? = some o) (hq : quiet o.op = true) (hD : ¬ D s.i) {x : RR} (h1 : oneOp P fi call ops.toList o r = some x)
    (hval : ∀ y, opA P o.op (r.env fi) r.s.H = some y → ∃ v, y = .val v r.s.H) : ∃ r', x = .go r' ∧ Inv P fi ops ρ0 s0 a0 w0 (s.i :: ahead) rest r' ρ rr D a w := by
  have hf := headF h.steps
  have hsl := fun d hd => h.curA hx ho hf.nin (d := d) hd
  have hop := opA_congr (P := P) (H := r.s.H) (opds_eq (base_env fi r) (base_pre fi ops s0 r s.i) hsl)
  obtain ⟨b, hb, g1, g2⟩ := one_inv h1
  have hkd := kd_eq ho
  have hnk : ¬ (kd (KS ops) s.i = .loud ∨ kd (KS ops) s.i = .alloc) := by
    rw [hkd]
    unfold Go.Vex.quiet at hq
    intro hh
    rcases hh with hh | hh <;> (rw [hh] at hq; cases hq)
  have main : ∀ v r', putR fi r o.dst v r.s.df r.s.H = some r' → (b = true → ∃ y, opA P o.op (r.env fi) r.s.H = some y ∧ valOf y = some v) → (b = false → v = .undef) → Inv P fi ops ρ0 s0 a0 w0 (s.i :: ahead) rest r' ρ rr D a w := by
    intro v r' hp hv1 hv2
    have hn := h.plan hx ho hp
    obtain ⟨eH, eD, _⟩ := putR_inv hp
    refine ⟨hn.steps, hn.nd, hn.cnt, hn.alt, hn.acl, hn.dn, h.dlt, h.dcl, ?_, ?_, by rw [eH]; exact h.rep, by rw [eH]; exact h.ext, by rw [eD]; exact h.df, h.size, ?_, h.i6, hn.i7, ?_, ?_, ?_, h.rlt⟩
    · intro k hk hkk
      rcases List.mem_cons.1 hk with rfl | hk
      · exact absurd hkk hnk
      · exact h.i2 k hk hkk
    · intro k hk hkn
      exact h.i3 k hk fun hm => hkn (List.mem_cons_of_mem _ hm)
    · intro k hk hDk d hd u hu
      rcases List.mem_cons.1 hk with rfl | hk
      · exact absurd hDk hD
      · rw [hn.env k hk d hd] at hu
        exact h.i5 k hk hDk d hd u hu
    · intro k hk hDk
      rcases List.mem_cons.1 hk with rfl | hk
      · intro o' ho'
        rw [ho] at ho'
        injection ho' with ho'
        subst ho'
        have e := hn.preA s.i (by simp)
        refine ⟨b, by rw [e, ← wanted_congr hsl]; exact hb, fun hbt => ?_, fun hbf d hd => ?_⟩
        · obtain ⟨y, hy, hvy⟩ := hv1 hbt
          refine ⟨y, v, by rw [e, eH, ← hop]; exact hy, hvy, fun d hd => ?_⟩
          rw [env_put hp, if_pos hd]
        · rw [env_put hp, if_pos hd, hv2 hbf]
      · exact (h.i8 k hk hDk).keep hn eH hk
    · intro k hDk hkn
      have := h.i9 k hDk fun hm => hkn (List.mem_cons_of_mem _ hm)
      rw [eH]; exact this
    · intro k k' x e1 e2 d1 d2 n1 n2
      exact h.inj k k' x e1 e2 d1 d2 (fun hm => n1 (List.mem_cons_of_mem _ hm)) (fun hm => n2 (List.mem_cons_of_mem _ hm))
  cases b with
  | false =>
    obtain ⟨r', hp, e⟩ := g2 rfl
    exact ⟨r', e, main _ r' hp (fun e => by cases e) (fun _ => rfl)⟩
  | true =>
    obtain ⟨y, out, hy, q1, q2⟩ := g1 rfl
    obtain ⟨v, rfl⟩ := hval y hy
    injection q1 with q1; subst q1
    obtain ⟨r', hr', h3⟩ := ob_some (x := putR fi r o.dst v r.s.df r.s.H) q2
    injection h3 with h3
    exact ⟨r', h3.symm, main v r' hr' (fun _ => ⟨_, hy, rfl⟩) (fun e => by cases e)⟩
end Go.Vex
namespace Go.Vex
variable {P : Program} {H : Hp}
/-! ### A quiet operation leaves the heap -/
def VP (H : Hp) (x : Option OR) : Prop := ∀ r, x = some r → ∃ v, r = .val v H
theorem VP.none : VP H none := fun r h => by cases h
theorem VP.val {v : AV} : VP H (valH H v) := fun r h => ⟨v, valH_inv h⟩
theorem VP.ob {α : Type} {x : Option α} {f : α → Option OR} (h : ∀ a, VP H (f a)) : VP H (ob x f) := fun r hr => by
  obtain ⟨a, _, h1⟩ := ob_some hr
  exact h a r h1
theorem VP.iteB {b : Bool} {x y : Option OR} (hx : VP H x) (hy : VP H y) : VP H (iteB b x y) := by cases b; exact hy; exact hx
theorem VP.optRec {α : Type} {z : Option OR} {s : α → Option OR} {o : Option α} (hz : VP H z) (hs : ∀ a, VP H (s a)) : VP H (optRec z s o) := by cases o; exact hz; exact hs _
theorem VP.orElse {x y : Option OR} (hx : VP H x) (hy : VP H y) : VP H (orElseO x y) := by cases x; exact hy; exact hx
theorem slArr_vp {e : Env} {q b off lo hi mx} : VP H (slArr P e H q b off lo hi mx) := .ob fun _ => .ob fun _ => .val
theorem slPtr_vp {e : Env} {t b off lo hi mx} : VP H (slPtr P e H t b off lo hi mx) := .ob fun d => by
  split
  · exact slArr_vp
  · exact .ob fun _ => slArr_vp
  · exact .none
theorem slCap_vp {e : Env} {sz b off len c lo hi mx} : VP H (slCap e H sz b off len c lo hi mx) := by
  cases c
  · exact .ob fun _ => .val
  · unfold slCap slOpn
    cases mx
    · exact .ob fun _ => .ob fun _ => .iteB (.iteB (.iteB (.iteB .val (.iteB .val .none)) .none) .none) .none
    · exact .none
theorem opSlice_vp {e : Env} {t x lo hi mx} : VP H (opSlice P e H t x lo hi mx) := .ob fun v => by
  cases v
  case str s => exact .ob fun _ => .ob fun _ => .ob fun _ => .ob fun _ => .ob fun _ => .val
  case slice b off len cap => exact .ob fun _ => .ob fun _ => slCap_vp
  case nils => exact .ob fun _ => .ob fun _ => .ob fun _ => .val
  case ptr b off => exact slPtr_vp
  all_goals exact .none
theorem ixAddr_vp {k v i} : VP H (ixAddr H k v i) := by
  cases k
  · exact .ob fun _ => .iteB .val .none
  · unfold ixAddr
    cases v
    case slice => exact .iteB .val .none
    all_goals exact .none
  · exact .none
theorem opMove_vp {e : Env} {x} : VP H (opMove e H x) := .ob fun _ => .val
theorem lenBy_vp {d v} : VP H (lenBy P H d v) := by
  cases d
  case string => exact .ob fun _ => .val
  case array => exact .val
  case pointer => exact .ob fun _ => .val
  case slice => unfold lenBy lenSl; cases v <;> first | exact .val | exact .none
  case map =>
    unfold lenBy lenMp
    cases v
    case nilm => exact .val
    case map b => exact .ob fun o => by cases o <;> first | exact .val | exact .none
    all_goals exact .none
  all_goals exact .none
theorem quiet_vp {o : Op} (hq : quiet o = true) {e : Env} : VP H (opA P o e H) := by
  cases o with
  | move x => exact opMove_vp
  | assign x => exact opMove_vp
  | pick c a b => exact .ob fun _ => .ob fun _ => .iteB opMove_vp opMove_vp
  | load t a => exact .ob fun _ => .ob fun _ => .ob fun _ => .ob fun _ => .val
  | nilCheck x => exact .ob fun _ => .iteB .val .none
  | binOp op t x y f => exact .ob fun _ => .ob fun _ => .ob fun _ => .val
  | unOp op t x => exact .ob fun _ => .ob fun _ => .val
  | makeInterface t x => exact .ob fun _ => .ob fun _ => .iteB .val .none
  | makeFunc f a b =>
    show VP H (opFunc e H f a.toList b.toList)
    unfold opFunc
    cases f
    case func => exact .ob fun _ => .ob fun _ => .val
    all_goals exact .none
  | slice t x lo hi mx => exact opSlice_vp
  | fieldAddr s x f => exact .ob fun _ => .iteB .none (.ob fun _ => .ob fun _ => .val)
  | field s x f => exact .ob fun _ => .ob fun _ => .ob fun _ => .ob fun _ => .ob fun _ => .val
  | indexAddr t x i => exact .ob fun _ => .ob fun _ => .ob fun _ => .ob fun _ => ixAddr_vp
  | index t x i => exact .ob fun _ => .ob fun _ => .ob fun _ => .ob fun _ => .ob fun _ => .val
  | lookup t x i ok => exact .ob fun _ => .ob fun _ => .ob fun _ => .ob fun _ => .ob fun _ => .ob fun _ => .ob fun _ => .ob fun _ => .optRec (.ob fun _ => .val) fun _ => .val
  | extract x i => exact .ob fun _ => .ob fun _ => .ob fun _ => .val
  | build t ps =>
    refine .ob fun _ => .ob fun d => ?_
    cases d
    case struct => exact .iteB (.ob fun _ => .val) .none
    case array => exact .ob fun _ => .ob fun _ => .val
    all_goals exact .none
  | typeAssert x t a ok => exact .ob fun _ => .ob fun _ => .iteB (.orElse (.ob fun _ => .iteB .val (.iteB (.ob fun _ => .val) .none)) (.ob fun _ => .iteB (.ob fun _ => .val) .none)) .none
  | call c =>
    obtain ⟨cal, cargs, ats⟩ := c
    cases cal with
    | builtin b =>
      refine .ob fun args => ?_
      cases b <;> first | (cases hq; done) | skip
      case len => exact .ob fun _ => .ob fun _ => .ob fun _ => lenBy_vp
      case min => exact .ob fun _ => .ob fun _ => .ob fun _ => .ob fun _ => .iteB (.iteB .val .val) .none
      case max => exact .ob fun _ => .ob fun _ => .ob fun _ => .ob fun _ => .iteB (.iteB .val .val) .none
    | value f => cases hq
    | invoke r n => cases hq
  | _ => cases hq
end Go.Vex
namespace Go.Vex
variable {P : Program} {ρ : Rho} {H : Hp} {w : World} {fi : FI} {ops : Array Oper} {ρ0 : Rho} {s0 : St} {a0 : Act} {w0 : World}
variable {ahead : List Nat} {rest : List Step} {r : RS} {rr : Nat → Option Nat} {D : Nat → Prop} {a : Act}
/-- An operation that was run already is taken into the plan. -/
theorem Inv.early (hx : Fx ops fi ρ0 s0 a0 w0) {call : CallF} {s : Step} (h : Inv P fi ops ρ0 s0 a0 w0 ahead (s :: rest) r ρ rr D a w) {o : Oper} (ho : ops[s.i]? = some o) (hD : D s.i) {x : RR} (h1 : oneOp P fi call ops.toList o r = some x)
    (hag : ∀ r', x = .go r' → againAll P fi ops.toList r' s.again = true) : ∃ r' ρ', x = .go r' ∧ Inv P fi ops ρ0 s0 a0 w0 (s.i :: ahead) rest r' ρ' rr D a w := by
  have hf := headF h.steps
  have hsl := fun d hd => h.curA hx ho hf.nin (d := d) hd
  have hkd := kd_eq ho
  have hkind : kindOf o.op = .alloc ∨ kindOf o.op = .pure := by rw [← hkd]; exact h.i3 s.i hD hf.nin
  obtain ⟨ae, hae, hunw, hwt⟩ := h.i9 s.i hD hf.nin o ho
  have hpre : ∀ i, Bef (MS ops) i s.i → D i ∧ i ∈ ahead := fun i hb => ⟨h.dcl s.i hD i hb, hf.pre i (by have := bef_lt hx.edges s.i i o (by simpa using ho) hb; have := hf.lt; simp at this ⊢; omega) hb⟩
  have hrel : ∀ d ∈ slotsOf ops.toList o, ∀ v, r.env fi (.tmp d) = some v → RV ρ v (ae.tmps.getD d undef) := by
    intro d hd v hv
    rw [hsl d hd] at hv
    rw [hae d hd]
    exact h.rel hx hpre d v hv
  obtain ⟨b, hb, g1, g2⟩ := one_inv h1
  have hwr := wanted_ok (ops := ops) (tmps := ae.tmps) (fun d hd v hv => hrel d (guard_mem hd) v hv) hb
  have hopd := opds_rel (base_env fi r) hrel
  have hin : ∀ v r' H', putR fi r o.dst v r.s.df H' = some r' → ∀ d, o.dst = some d → d < a.tmps.size := by
    intro v r' H' hp d hd
    rcases (putR_inv hp).2.2 with ⟨e, _⟩ | ⟨d', e, hp'⟩
    · rw [e] at hd; cases hd
    · rw [e] at hd; injection hd with hd; subst hd
      rw [h.size]; exact (putAt_look hp').1
  have main : ∀ v r' H' ρ', putR fi r o.dst v r.s.df H' = some r' → x = .go r' → ρ.sub ρ' → Rep ρ' H' w → Ext ρ0 s0.H w0 ρ' H' w → (∀ d, o.dst = some d → RV ρ' v (a.tmps.getD d undef)) →
      (H' = r.s.H ∨ kindOf o.op = .alloc) → (∀ k x, rr k = some x → k ∉ s.i :: ahead → D k → Un ρ r.s.H x → Un ρ' H' x) → Inv P fi ops ρ0 s0 a0 w0 (s.i :: ahead) rest r' ρ' rr D a w := by
    intro v r' H' ρ' hp hxr hsub hrep hext hv hH hun
    have hn := h.plan hx ho hp
    obtain ⟨eH, eD, _⟩ := putR_inv hp
    refine ⟨hn.steps, hn.nd, hn.cnt, hn.alt, hn.acl, hn.dn, h.dlt, h.dcl, ?_, ?_, by rw [eH]; exact hrep, by rw [eH]; exact hext, by rw [eD]; exact h.df.mono hsub, h.size, ?_, h.i6, hn.i7, ?_, ?_, ?_, h.rlt⟩
    · intro k hk hkk
      rcases List.mem_cons.1 hk with rfl | hk
      · exact hD
      · exact h.i2 k hk hkk
    · intro k hk hkn
      exact h.i3 k hk fun hm => hkn (List.mem_cons_of_mem _ hm)
    · intro k hk hDk d hd u hu
      rcases List.mem_cons.1 hk with rfl | hk
      · have hd' := (dst_of ho).symm.trans hd
        rw [env_put hp, if_pos hd'] at hu
        injection hu with hu; subst hu
        exact hv d hd'
      · rw [hn.env k hk d hd] at hu
        exact (h.i5 k hk hDk d hd u hu).mono hsub
    · intro k hk hDk
      rcases List.mem_cons.1 hk with rfl | hk
      · exact absurd hD hDk
      · have hold := h.i8 k hk hDk
        rcases hH with hH | hal
        · exact hold.keep hn (eH.trans hH) hk
        · have hsk : kd (KS ops) s.i = .loud ∨ kd (KS ops) s.i = .alloc := .inr (by rw [hkd]; exact hal)
          rcases hf.again hsk k hk with h2 | h2 | ⟨h2, h3⟩
          · refine hold.pure hn hk ?_
            cases hkk : kd (KS ops) k with
            | pure => rfl
            | quiet => exact absurd hkk h2
            | alloc => exact absurd (h.i2 k hk (.inr hkk)) hDk
            | loud => exact absurd (h.i2 k hk (.inl hkk)) hDk
          · exact absurd (h.dcl s.i hD k h2) hDk
          · exact hold.again hn hk h3 (againAll_mem (hag r' hxr) h2)
    · intro k hDk hkn o' ho'
      obtain ⟨ae', q1, q2, q3⟩ := h.i9 k hDk (fun hm => hkn (List.mem_cons_of_mem _ hm)) o' ho'
      refine ⟨ae', q1, q2, fun hw' => ⟨(q3 hw').1, fun hal => ?_⟩⟩
      obtain ⟨u, ob, we, p1, p2, p3, p4, p5, p6⟩ := (q3 hw').2 hal
      exact ⟨u, ob, we, p1, p2, p3, p4, by rw [eH]; exact hun k _ p2 hkn hDk p5, p6⟩
    · intro k k' x e1 e2 d1 d2 n1 n2
      exact h.inj k k' x e1 e2 d1 d2 (fun hm => n1 (List.mem_cons_of_mem _ hm)) (fun hm => n2 (List.mem_cons_of_mem _ hm))
  cases b with
  | false =>
    obtain ⟨r', hp, e⟩ := g2 rfl
    exact ⟨r', ρ, e, main _ r' _ ρ hp e ρ.sub_refl h.rep h.ext (fun d hd => by rw [hunw hwr d hd (hin _ _ _ hp d hd)]; exact .undef) (.inl rfl) (fun _ _ _ _ _ q => q)⟩
  | true =>
    obtain ⟨y, out, hy, q1, q2⟩ := g1 rfl
    rcases hkind with hal | hpu
    · obtain ⟨u, ob, we, p1, p2, p3, p4, p5, p6⟩ := (hwt hwr).2 hal
      have hia : isAlloc o.op = true := by unfold isAlloc; rw [hal]
      obtain ⟨v, H', o', ob', en, g, rfl, ha, hnd, hrun, hro, hrv⟩ := allocs (P := P) (h.rep.nxt _ (Nat.le_refl _)) hia hopd hy
      have e1 := hrun we
      rw [p1] at e1
      injection e1 with e1 e2
      injection e1 with e1
      have e3 : ob = ob' := by
        have : (World.new we ob).heap[we.heap.size]? = (World.new we ob').heap[we.heap.size]? := by rw [e2]
        rw [new_get_new, new_get_new] at this
        injection this
      subst e3
      injection q1 with q1; subst q1
      obtain ⟨r', hp, e4⟩ := ob_some (x := putR fi r o.dst v r.s.df H') q2
      injection e4 with e4
      have hur : ∀ b n d t, r.s.H.fn b = .ro n d t → 0 < n → ∀ y, ρ b ≠ some (we.heap.size, y) := by
        intro b n d t hb hn y e
        obtain ⟨r0, y0, z1, z2⟩ := hx.ror b n d t (h.ext.ros b n d t hb) hn
        have := h.ext.sub _ _ z1
        rw [e] at this
        simp only [Option.some.injEq, Prod.mk.injEq] at this
        omega
      obtain ⟨t1, t2, t3, t4, t5⟩ := h.rep.adopt ha hnd p4 p5 hur (hro we.heap.size)
      refine ⟨r', _, e4.symm, main v r' H' _ hp e4.symm t2 t1 ⟨Rho.sub_trans h.ext.sub t2, Nat.le_trans h.ext.next t3, h.ext.size, fun r1 hr1 hu1 => ?_, h.ext.os, h.ext.out, fun b n d t hb => h.ext.ros b n d t (t5 b n d t hb)⟩ (fun d hd => ?_) (.inr hal) (fun k x hx1 hk hDk hu => t4 x ?_ hu)⟩
      · obtain ⟨z1, z2⟩ := h.ext.frame r1 hr1 hu1
        exact ⟨z1, t4 r1 (by omega) z2⟩
      · rw [p6 d hd (hin _ _ _ hp d hd), e1]; exact hrv we.heap.size
      · intro e
        subst e
        have := h.inj k s.i _ hx1 p2 hDk hD (fun hm => hk (List.mem_cons_of_mem _ hm)) hf.nin
        subst this
        exact hk (by simp)
    · obtain ⟨u, p1, p2⟩ := (hwt hwr).1 hpu
      have hq : Go.Vex.quiet o.op = true := by unfold Go.Vex.quiet; rw [hpu]
      obtain ⟨v, u', rfl, hrun, hv⟩ := quiet_ok' (P := P) h.rep hq hopd hy
      have e1 := p1 w
      rw [hrun] at e1
      injection e1 with e1
      injection e1 with e1
      injection q1 with q1; subst q1
      obtain ⟨r', hp, e4⟩ := ob_some (x := putR fi r o.dst v r.s.df r.s.H) q2
      injection e4 with e4
      exact ⟨r', ρ, e4.symm, main v r' _ ρ hp e4.symm ρ.sub_refl h.rep h.ext (fun d hd => by rw [p2 d hd (hin _ _ _ hp d hd), ← e1]; exact hv) (.inl rfl) (fun _ _ _ _ _ q => q)⟩
end Go.Vex
namespace Go.Vex
variable {P : Program} {ρ : Rho} {H : Hp} {w : World} {fi : FI} {ops : Array Oper} {ρ0 : Rho} {s0 : St} {a0 : Act} {w0 : World}
variable {ahead : List Nat} {rest : List Step} {r : RS} {rr : Nat → Option Nat} {D : Nat → Prop} {a : Act}
theorem drawA_cons {call : CallF} {L : List Oper} {s : Step} {cr : CR} (h : drawA P fi call L (s :: rest) r = some cr) : earlyAll P fi L r s.early = true ∧ ∃ o x, nth L s.i = some o ∧ oneOp P fi call L o r = some x ∧ thenAgain P fi L s.again (drawA P fi call L rest) x = some cr := by
  have h : iteB (earlyAll P fi L r s.early) (ob (nth L s.i) fun o => ob (oneOp P fi call L o r) (thenAgain P fi L s.again (drawA P fi call L rest))) none = some cr := h
  obtain ⟨h0, h1⟩ := iteB_some h
  obtain ⟨o, ho, h2⟩ := ob_some h1
  obtain ⟨x, hx, h3⟩ := ob_some h2
  exact ⟨h0, o, x, ho, hx, h3⟩
theorem then_go {L : List Oper} {l : List Nat} {k : RS → Option CR} {r' : RS} {cr : CR} (h : thenAgain P fi L l k (.go r') = some cr) : againAll P fi L r' l = true ∧ k r' = some cr := iteB_some (x := k r') h
/-- The plan goes on as far as the run lets it. -/
theorem Inv.advance (hx : Fx ops fi ρ0 s0 a0 w0) {call : CallF} {cr : CR} : ∀ (rest : List Step) (ahead : List Nat) (r : RS) (ρ : Rho), Inv P fi ops ρ0 s0 a0 w0 ahead rest r ρ rr D a w → drawA P fi call ops.toList rest r = some cr →
    ∃ ahead' rest' r' ρ', Inv P fi ops ρ0 s0 a0 w0 ahead' rest' r' ρ' rr D a w ∧ drawA P fi call ops.toList rest' r' = some cr ∧ (rest' = [] ∨ ∃ s l, rest' = s :: l ∧ ¬ D s.i ∧ (kd (KS ops) s.i = .loud ∨ kd (KS ops) s.i = .alloc)) := by
  intro rest
  induction rest with
  | nil => intro ahead r ρ h hd; exact ⟨_, _, _, _, h, hd, .inl rfl⟩
  | cons s rest ih =>
    intro ahead r ρ h hd
    obtain ⟨_, o, x, ho, hone, hth⟩ := drawA_cons hd
    have ho' : ops[s.i]? = some o := by rw [nth_eq] at ho; simpa using ho
    by_cases hD : D s.i
    · obtain ⟨r', ρ', rfl, hi⟩ := h.early hx ho' hD hone (fun r' e => by subst e; exact (then_go hth).1)
      exact ih _ _ _ hi (then_go hth).2
    · by_cases hk : kd (KS ops) s.i = .loud ∨ kd (KS ops) s.i = .alloc
      · exact ⟨_, _, _, _, h, hd, .inr ⟨s, rest, rfl, hD, hk⟩⟩
      · have hq : Go.Vex.quiet o.op = true := by
          rw [kd_eq ho'] at hk
          unfold Go.Vex.quiet
          cases hkk : kindOf o.op with
          | pure => rfl
          | quiet => rfl
          | alloc => exact absurd (.inr hkk) hk
          | loud => exact absurd (.inl hkk) hk
        obtain ⟨r', rfl, hi⟩ := h.quiet hx ho' hq hD hone (fun y hy => quiet_vp hq y hy)
        exact ih _ _ _ hi (then_go hth).2
/-! ### The run goes on -/
theorem put_getD {a : Act} {t : Option Tmp} {u : Value} (d : Tmp) (h : ∀ d, t = some d → d < a.tmps.size) : (a.put t u).tmps.getD d undef = if t = some d then u else a.tmps.getD d undef := by
  cases t with
  | none => simp [Act.put]
  | some d' =>
    show (a.tmps.setIfInBounds d' u).getD d undef = _
    rw [getD_set _ _ _ _ (h d' rfl)]
    by_cases e : d = d'
    · subst e; simp
    · rw [if_neg e, if_neg (by intro e'; injection e' with e'; exact e e'.symm)]
theorem put_getD_ne {a : Act} {t : Option Tmp} {u : Value} (d : Tmp) (h : t ≠ some d) : (a.put t u).tmps.getD d undef = a.tmps.getD d undef := by
  cases t with
  | none => rfl
  | some d' =>
    have : d' ≠ d := fun e => h (by rw [e])
    show (a.tmps.setIfInBounds d' u).getD d undef = _
    simp [Array.getElem?_setIfInBounds_ne this]
theorem put_size {a : Act} {t : Option Tmp} {u : Value} : (a.put t u).tmps.size = a.tmps.size := by cases t <;> simp [Act.put]
/-- What an operation found is kept. -/
theorem preV_keep (hx : Fx ops fi ρ0 s0 a0 w0) (hdcl : ∀ k, D k → ∀ i, Bef (MS ops) i k → D i) {j : Nat} {o : Oper} (ho : ops[j]? = some o) (hj : ¬ D j) {u : Value} {ds : List Deferred} {k : Nat} (hk : D k) (d : Tmp) :
    preV ops a0 (({ a with defers := ds } : Act).put o.dst u) k d = preV ops a0 a k d := by
  by_cases hw : W ops k d
  · rw [preV_pos hw, preV_pos hw]
    obtain ⟨i, hb, hd⟩ := hw
    refine put_getD_ne d fun e => ?_
    have := hx.uniq hd ((dst_of ho).trans e)
    subst this
    exact hj (hdcl k hk _ hb)
  · rw [preV_neg hw, preV_neg hw]
theorem Early.keep (hx : Fx ops fi ρ0 s0 a0 w0) (hdcl : ∀ k, D k → ∀ i, Bef (MS ops) i k → D i) {j : Nat} {o : Oper} (ho : ops[j]? = some o) (hj : ¬ D j) {u : Value} {ds : List Deferred} {k : Nat} (hk : D k) {ρ' : Rho} {H' : Hp} {w' : World} {rr' : Nat → Option Nat}
    (hrr : rr' k = rr k) (hw : ∀ x ob, w.heap[x]? = some ob → Un ρ H x → w'.heap[x]? = some ob ∧ Un ρ' H' x) (h : Early P ops w0 a0 ρ H rr a w k) : Early P ops w0 a0 ρ' H' rr' (({ a with defers := ds } : Act).put o.dst u) w' k := by
  intro o' ho'
  obtain ⟨ae, q1, q2, q3⟩ := h o' ho'
  have hne : ∀ d, o'.dst = some d → o.dst ≠ some d := by
    intro d hd e
    have := hx.uniq ((dst_of ho').trans hd) ((dst_of ho).trans e)
    subst this
    exact hj hk
  have hsz : (({ a with defers := ds } : Act).put o.dst u).tmps.size = a.tmps.size := put_size
  have hgd : ∀ d, o'.dst = some d → (({ a with defers := ds } : Act).put o.dst u).tmps.getD d undef = a.tmps.getD d undef := fun d hd => put_getD_ne d (hne d hd)
  refine ⟨ae, fun d hd => by rw [preV_keep hx hdcl ho hj hk]; exact q1 d hd, fun hf d hd hl => by rw [hgd d hd]; exact q2 hf d hd (hsz ▸ hl), fun ht => ⟨fun hp => ?_, fun hp => ?_⟩⟩
  · obtain ⟨v, p1, p2⟩ := (q3 ht).1 hp
    exact ⟨v, p1, fun d hd hl => by rw [hgd d hd]; exact p2 d hd (hsz ▸ hl)⟩
  · obtain ⟨v, ob, we, p1, p2, p3, p4, p5, p6⟩ := (q3 ht).2 hp
    obtain ⟨z1, z2⟩ := hw _ _ p4 p5
    exact ⟨v, ob, we, p1, hrr.trans p2, p3, z1, z2, fun d hd hl => by rw [hgd d hd]; exact p6 d hd (hsz ▸ hl)⟩
/-- The run makes a step; the plan stays. -/
theorem Inv.real (hx : Fx ops fi ρ0 s0 a0 w0) (h : Inv P fi ops ρ0 s0 a0 w0 ahead rest r ρ rr D a w) {j : Nat} {o : Oper} (ho : ops[j]? = some o) (hj : ¬ D j) (hpre : ∀ i, Bef (MS ops) i j → D i) {w' : World} (hr : Rep ρ r.s.H w') (hext : Ext ρ r.s.H w ρ r.s.H w')
    {u : Value} {rr' : Nat → Option Nat} (hrr : ∀ k, D k → rr' k = rr k) (h3 : j ∉ ahead → kd (KS ops) j = .alloc ∨ kd (KS ops) j = .pure) (h5 : j ∈ ahead → ∀ d, o.dst = some d → ∀ v, r.env fi (.tmp d) = some v → RV ρ v u)
    (h9 : j ∉ ahead → Early P ops w0 a0 ρ r.s.H rr' (a.put o.dst u) w' j) (hinj : j ∉ ahead → ∀ k x, D k → k ∉ ahead → rr k = some x → rr' j ≠ some x) (hrlt : ∀ k x, rr' k = some x → x < w'.heap.size) :
    Inv P fi ops ρ0 s0 a0 w0 ahead rest r ρ rr' (fun k => D k ∨ k = j) (a.put o.dst u) w' := by
  refine ⟨h.steps, h.nd, h.cnt, h.alt, h.acl, h.dn, ?_, ?_, fun k hk hkk => .inl (h.i2 k hk hkk), ?_, hr, h.ext.trans hext, ?_, put_size.trans h.size, ?_, ?_, h.i7, fun k hk hD => h.i8 k hk fun e => hD (.inl e), ?_, ?_, hrlt⟩
  · rintro k (hk | rfl)
    · exact h.dlt k hk
    · exact (Array.getElem?_eq_some_iff.1 ho).1
  · rintro k (hk | rfl) i hb
    · exact .inl (h.dcl k hk i hb)
    · exact .inl (hpre i hb)
  · rintro k (hk | rfl) hn
    · exact h.i3 k hk hn
    · exact h3 hn
  · have : (a.put o.dst u).defers = a.defers := by cases o.dst <;> rfl
    rw [this]; exact h.df
  · rintro k hk (hD | rfl) d hd v hv
    · rw [put_getD_ne d]
      · exact h.i5 k hk hD d hd v hv
      · intro e
        have := hx.uniq hd ((dst_of ho).trans e)
        subst this
        exact hj hD
    · have hd' := (dst_of ho).symm.trans hd
      rw [put_getD d (fun d hd => by rw [h.size]; exact h.dn _ hk d ((dst_of ho).trans hd)), if_pos hd']
      exact h5 hk d hd' v hv
  · intro d hd
    rw [put_getD_ne d (by have := hd j (.inr rfl); rwa [dst_of ho] at this)]
    exact h.i6 d fun k hk => hd k (.inl hk)
  · rintro k (hD | rfl) hn
    · exact Early.keep hx h.dcl ho hj (ds := a.defers) hD (hrr k hD) (fun x ob h1 h2 => by
        have hlt := (Array.getElem?_eq_some_iff.1 h1).1
        obtain ⟨z1, z2⟩ := hext.frame x hlt h2
        exact ⟨z1.trans h1, z2⟩) (h.i9 k hD hn)
    · exact h9 hn
  · rintro k k' x e1 e2 (d1 | rfl) (d2 | rfl) n1 n2
    · rw [hrr k d1] at e1; rw [hrr k' d2] at e2
      exact h.inj k k' x e1 e2 d1 d2 n1 n2
    · rw [hrr k d1] at e1
      exact absurd e2 (hinj n2 k x d1 n1 e1)
    · rw [hrr k' d2] at e2
      exact absurd e1 (hinj n1 k' x d2 n2 e2)
    · rfl
end Go.Vex
namespace Go.Vex
variable {P : Program} {ρ : Rho} {H : Hp} {w : World} {fi : FI} {ops : Array Oper} {ρ0 : Rho} {s0 : St} {a0 : Act} {w0 : World}
variable {ahead : List Nat} {rest : List Step} {r : RS} {rr : Nat → Option Nat} {D : Nat → Prop} {a : Act}
/-- The plan has it already. -/
theorem Inv.late (hx : Fx ops fi ρ0 s0 a0 w0) (h : Inv P fi ops ρ0 s0 a0 w0 ahead rest r ρ rr D a w) {j : Nat} {o : Oper} (ho : ops[j]? = some o) (hj : j ∈ ahead) (hD : ¬ D j) (hpre : ∀ i, Bef (MS ops) i j → D i) {K : Act → World → Prop} {Q : Exit → Act → World → Prop}
    (hk : ∀ a', Inv P fi ops ρ0 s0 a0 w0 ahead rest r ρ rr (fun k => D k ∨ k = j) a' w → K a' w) : wpOp P ops Q j K a w := by
  obtain ⟨b, g1, g2, g3⟩ := h.i8 j hj hD o ho
  have hrel : ∀ d ∈ slotsOf ops.toList o, ∀ v, preA fi ops s0 r j (.tmp d) = some v → RV ρ v (a.tmps.getD d undef) := by
    intro d hd v hv
    rw [h.cur hx ho hD hd]
    exact h.rel hx (fun i hb => ⟨hpre i hb, h.acl j hj i hb⟩) d v hv
  have hw := wanted_ok (ops := ops) (tmps := a.tmps) (fun d hd v hv => hrel d (guard_mem hd) v hv) g1
  have hopd := opds_rel (base_pre fi ops s0 r j) hrel
  unfold wpOp
  simp only [ho, hw]
  cases b with
  | false =>
    rw [if_neg (by simp)]
    refine hk _ (h.real hx ho hD hpre h.rep (Ext.refl _ _ _) (fun _ _ => rfl) (fun hn => absurd hj hn) (fun _ d hd v hv => ?_) (fun hn => absurd hj hn) (fun hn => absurd hj hn) h.rlt)
    rw [g3 rfl d hd] at hv
    injection hv with hv; subst hv
    exact .undef
  | true =>
    rw [if_pos rfl]
    obtain ⟨x, v, q1, q2, q3⟩ := g2 rfl
    have hq : Go.Vex.quiet o.op = true := by
      have hk2 : ¬ (kd (KS ops) j = .loud ∨ kd (KS ops) j = .alloc) := fun e => hD (h.i2 j hj e)
      rw [kd_eq ho] at hk2
      unfold Go.Vex.quiet
      cases hkk : kindOf o.op with
      | pure => rfl
      | quiet => rfl
      | alloc => exact absurd (.inr hkk) hk2
      | loud => exact absurd (.inl hkk) hk2
    obtain ⟨v', u, rfl, hrun, hv⟩ := quiet_ok' (P := P) h.rep hq hopd q1
    injection q2 with q2; subst q2
    refine .inl ?_
    unfold Oper.wp
    rw [hrun]
    refine hk _ (h.real hx ho hD hpre h.rep (Ext.refl _ _ _) (fun _ _ => rfl) (fun hn => absurd hj hn) (fun _ d hd v hv' => ?_) (fun hn => absurd hj hn) (fun hn => absurd hj hn) h.rlt)
    rw [q3 d hd] at hv'
    injection hv' with hv'; subst hv'
    exact hv
theorem Rep.garbage (h : Rep ρ H w) (ob : Obj) : Rep ρ H (World.new w ob) ∧ Ext ρ H w ρ H (World.new w ob) := by
  have hext : Ext ρ H w ρ H (World.new w ob) := ⟨ρ.sub_refl, Nat.le_refl _, by simp [World.new], fun r hr hu => ⟨new_get_old w ob hr, hu⟩, rfl, rfl, fun _ _ _ _ h => h⟩
  exact ⟨⟨fun b hb => let ⟨r, base, e, o, h1, h2, h3⟩ := h.live b hb; ⟨r, base, e, o, h1, by rw [new_get_old w ob (h.blk_lt hb h1)]; exact h2, h3⟩, h.inj, h.nxt, h.rdx hext⟩, hext⟩
theorem Rep.un_new (h : Rep ρ H w) : Un ρ H w.heap.size := fun b r x hb hr => by
  obtain ⟨base, e⟩ := x
  have := h.blk_lt hb hr
  omega
theorem earlyAll_mem {L : List Oper} {l : List Nat} (h : earlyAll P fi L r l = true) {q : Nat} (hq : q ∈ l) : earlyOne P fi L r q = true := by
  induction l with
  | nil => cases hq
  | cons x l ih =>
    have h : iteB (earlyOne P fi L r x) (earlyAll P fi L r l) false = true := h
    cases hx : earlyOne P fi L r x with
    | false => rw [hx] at h; cases h
    | true =>
      rw [hx] at h
      rcases List.mem_cons.1 hq with rfl | hq
      · exact hx
      · exact ih h hq
end Go.Vex
namespace Go.Vex
variable {P : Program} {ρ : Rho} {H : Hp} {w : World} {fi : FI} {ops : Array Oper} {ρ0 : Rho} {s0 : St} {a0 : Act} {w0 : World}
variable {ahead : List Nat} {rest : List Step} {r : RS} {rr : Nat → Option Nat} {D : Nat → Prop} {a : Act}
theorem nodup_le : ∀ (l m : List Nat), l.Nodup → (∀ x ∈ l, x ∈ m) → l.length ≤ m.length := by
  intro l
  induction l with
  | nil => intro m _ _; simp
  | cons x l ih =>
    intro m hn hs
    rw [List.nodup_cons] at hn
    have hx := hs x (by simp)
    have := ih (m.erase x) hn.2 (fun y hy => (List.mem_erase_of_ne (by intro e; subst e; exact hn.1 hy)).2 (hs y (List.mem_cons_of_mem _ hy)))
    rw [List.length_erase_of_mem hx] at this
    have hpos : 0 < m.length := List.length_pos_of_mem hx
    simp; omega
theorem stepsOK_nin {L : List Oper} {ks : List Kd} {ms : List Nat} : ∀ (l : List Step) (ahead : List Nat), stepsOK L ks ms ahead l = true → (∀ s ∈ l, s.i ∉ ahead ∧ s.i < L.length) ∧ (l.map (·.i)).Nodup := by
  intro l
  induction l with
  | nil => intro ahead _; exact ⟨by simp, by simp⟩
  | cons s l ih =>
    intro ahead h
    have hf := headF h
    obtain ⟨h1, h2⟩ := ih _ hf.tail
    refine ⟨fun t ht => ?_, ?_⟩
    · rcases List.mem_cons.1 ht with rfl | ht
      · exact ⟨hf.nin, hf.lt⟩
      · exact ⟨fun e => (h1 t ht).1 (List.mem_cons_of_mem _ e), (h1 t ht).2⟩
    · rw [List.map_cons, List.nodup_cons]
      refine ⟨fun hm => ?_, h2⟩
      obtain ⟨t, ht, e⟩ := List.mem_map.1 hm
      exact (h1 t ht).1 (by rw [e]; simp)
/-- Each operation is in the plan. -/
theorem Inv.cover (h : Inv P fi ops ρ0 s0 a0 w0 ahead rest r ρ rr D a w) {j : Nat} (hj : j < ops.size) : j ∈ ahead ∨ j ∈ rest.map (·.i) := by
  obtain ⟨h1, h2⟩ := stepsOK_nin rest ahead h.steps
  have hnd : (ahead ++ rest.map (·.i)).Nodup := by
    rw [List.nodup_append]
    refine ⟨h.nd, h2, fun x hx y hy e => ?_⟩
    subst e
    obtain ⟨t, ht, e⟩ := List.mem_map.1 hy
    exact (h1 t ht).1 (by rw [e]; exact hx)
  have hlt : ∀ x ∈ ahead ++ rest.map (·.i), x ∈ List.range ops.size := by
    intro x hx
    rcases List.mem_append.1 hx with hx | hx
    · simpa using h.alt x hx
    · obtain ⟨t, ht, e⟩ := List.mem_map.1 hx
      have := (h1 t ht).2
      subst e; simpa using this
  rcases Decidable.em (j ∈ ahead ++ rest.map (·.i)) with hm | hm
  · exact List.mem_append.1 hm
  · have hjr : j ∈ List.range ops.size := by simpa using hj
    have := nodup_le _ ((List.range ops.size).erase j) hnd (fun x hx => (List.mem_erase_of_ne (by intro e; subst e; exact hm hx)).2 (hlt x hx))
    rw [List.length_erase_of_mem hjr] at this
    have hc := h.cnt
    simp at this
    omega
/-- What an operation finds does not change when it is done. -/
theorem preV_self (hx : Fx ops fi ρ0 s0 a0 w0) {j : Nat} {o : Oper} (ho : ops[j]? = some o) (hj : ¬ Bef (MS ops) j j) {u : Value} (d : Tmp) : preV ops a0 (a.put o.dst u) j d = preV ops a0 a j d := by
  by_cases hw : W ops j d
  · rw [preV_pos hw, preV_pos hw]
    obtain ⟨i, hb, hd⟩ := hw
    refine put_getD_ne d fun e => ?_
    have := hx.uniq hd ((dst_of ho).trans e)
    subst this
    exact hj hb
  · rw [preV_neg hw, preV_neg hw]
/-- The run has it ahead of the plan. -/
theorem Inv.soon (hx : Fx ops fi ρ0 s0 a0 w0) {s : Step} (h : Inv P fi ops ρ0 s0 a0 w0 ahead (s :: rest) r ρ rr D a w) (hsD : ¬ D s.i) (hsk : kd (KS ops) s.i = .loud ∨ kd (KS ops) s.i = .alloc) {j : Nat} {o : Oper} (ho : ops[j]? = some o)
    (hj : j ∈ rest.map (·.i)) (hja : j ∉ ahead) (hD : ¬ D j) (hpre : ∀ i, Bef (MS ops) i j → D i) (hea : earlyAll P fi ops.toList r s.early = true) {K : Act → World → Prop} {Q : Exit → Act → World → Prop}
    (hk : ∀ rr' a' w', Inv P fi ops ρ0 s0 a0 w0 ahead (s :: rest) r ρ rr' (fun k => D k ∨ k = j) a' w' → K a' w') : wpOp P ops Q j K a w := by
  have hf := headF h.steps
  have hjj : ¬ Bef (MS ops) j j := fun hb => hD (hpre j hb)
  have hslots : ∀ u d, d ∈ slotsOf ops.toList o → a.tmps.getD d undef = preV ops a0 (a.put o.dst u) j d := fun u d hd => by rw [preV_self hx ho hjj]; exact h.cur hx ho hD hd
  have hsz : ∀ u, (a.put o.dst u).tmps.size = a.tmps.size := fun u => put_size
  have hself : ∀ u d, o.dst = some d → d < a.tmps.size → (a.put o.dst u).tmps.getD d undef = u := fun u d hd hl => by
    rw [put_getD d (fun d' hd' => by rw [hd] at hd'; injection hd' with e; exact e ▸ hl), if_pos hd]
  have hkind : kd (KS ops) j = .alloc ∨ kd (KS ops) j = .pure := by
    rcases hf.behind hsk j hj with hb | ⟨h1, _⟩ | h1
    · exact absurd (hpre _ hb) hsD
    · exact .inl h1
    · exact .inr h1
  -- not wanted
  have hno : Region.wanted o (yielded ops a.tmps) = false → K (a.put o.dst undef) w := by
    intro hw
    refine hk (fun k => if k = j then none else rr k) _ w (h.real hx ho hD hpre h.rep (Ext.refl _ _ _) (fun k hDk => if_neg (fun (e : k = j) => hD (e ▸ hDk))) (fun _ => hkind) (fun hm => absurd hm hja) (fun _ o' ho' => ?_) (fun _ k x hDk hka e1 e2 => ?_) (fun k x e => ?_))
    · rw [ho] at ho'
      injection ho' with ho'; subst ho'
      exact ⟨a, fun d hd => hslots undef d hd, fun _ d hd hl => hself undef d hd (hsz undef ▸ hl), fun hw' => by rw [hw] at hw'; cases hw'⟩
    · rw [if_pos rfl] at e2; cases e2
    · split at e
      · cases e
      · exact h.rlt k x e
  -- pure
  have hpu : kindOf o.op = .pure → Region.wanted o (yielded ops a.tmps) = true → ∀ u, (∀ w, (execOp a.eval o).run P w = .ok (.value u) w) → K (a.put o.dst u) w := by
    intro hp hw u hrun
    refine hk (fun k => if k = j then none else rr k) _ w (h.real hx ho hD hpre h.rep (Ext.refl _ _ _) (fun k hDk => if_neg (fun (e : k = j) => hD (e ▸ hDk))) (fun _ => hkind) (fun hm => absurd hm hja) (fun _ o' ho' => ?_) (fun _ k x hDk hka e1 e2 => ?_) (fun k x e => ?_))
    · rw [ho] at ho'
      injection ho' with ho'; subst ho'
      refine ⟨a, fun d hd => hslots u d hd, fun hf => absurd (hw.symm.trans hf) (by simp), fun _ => ⟨fun _ => ⟨u, hrun, fun d hd hl => hself u d hd (hsz u ▸ hl)⟩, fun hal => absurd (hp.symm.trans hal) (by simp)⟩⟩
    · rw [if_pos rfl] at e2; cases e2
    · split at e
      · cases e
      · exact h.rlt k x e
  -- an allocation
  have hal : kindOf o.op = .alloc → Region.wanted o (yielded ops a.tmps) = true → ∀ u ob, (execOp a.eval o).run P w = .ok (.value u) (World.new w ob) → K (a.put o.dst u) (World.new w ob) := by
    intro hp hw u ob hrun
    have hg := h.rep.garbage ob
    refine hk (fun k => if k = j then some w.heap.size else rr k) _ _ (h.real hx ho hD hpre hg.1 hg.2 (fun k hDk => if_neg (fun (e : k = j) => hD (e ▸ hDk))) (fun _ => hkind) (fun hm => absurd hm hja) (fun _ o' ho' => ?_) (fun _ k x hDk hka e1 e2 => ?_) (fun k x e => ?_))
    · rw [ho] at ho'
      injection ho' with ho'; subst ho'
      refine ⟨a, fun d hd => hslots u d hd, fun hf => absurd (hw.symm.trans hf) (by simp), fun _ => ⟨fun hpp => absurd (hp.symm.trans hpp) (by simp), fun _ => ⟨u, ob, w, hrun, if_pos rfl, h.ext.size, new_get_new w ob, h.rep.un_new, fun d hd hl => hself u d hd (hsz u ▸ hl)⟩⟩⟩
    · rw [if_pos rfl] at e2
      injection e2 with e2
      have := h.rlt k x e1
      omega
    · have hs : (World.new w ob).heap.size = w.heap.size + 1 := by simp [World.new]
      rw [hs]
      split at e
      · injection e with e; omega
      · have := h.rlt k x e; omega
  rcases hf.behind hsk j hj with hb | ⟨h1, h2, h3⟩ | h1
  · exact absurd (hpre _ hb) hsD
  · have he := earlyAll_mem hea h2
    have hrel : ∀ d ∈ slotsOf ops.toList o, ∀ v, r.env fi (.tmp d) = some v → RV ρ v (a.tmps.getD d undef) := by
      intro d hd v hv
      rw [h.curA hx ho hja hd] at hv
      rw [h.cur hx ho hD hd]
      by_cases hw : W ops j d
      · rw [preA_pos hw] at hv
        rw [preV_pos hw]
        obtain ⟨i, hb, hdi⟩ := hw
        have hia : i ∈ ahead := by
          rcases h.cover (h.dlt i (hpre i hb)) with q | q
          · exact q
          · exact absurd hb (earlyOK_inv (by simpa using ho) h3 hd (by simpa using q) ((dstOf_eq i).trans hdi))
        exact h.i5 i hia (hpre i hb) d hdi v hv
      · rw [preA_neg hw] at hv
        rw [preV_neg hw]
        exact (hx.env.rel d v hv).mono h.ext.sub
    unfold earlyOne at he
    have hn1 : nth ops.toList j = some o := by rw [nth_eq]; simpa using ho
    rw [hn1] at he
    simp only [ob_mk] at he
    cases hwd : wanted ops.toList o (r.env fi) with
    | none => rw [hwd] at he; cases he
    | some b =>
      rw [hwd] at he
      simp only [ob_mk] at he
      have hwr := wanted_ok (ops := ops) (tmps := a.tmps) (fun d hd v hv => hrel d (guard_mem hd) v hv) hwd
      unfold wpOp
      simp only [ho, hwr]
      cases b with
      | false => rw [if_neg (by simp)]; exact hno hwr
      | true =>
        rw [if_pos rfl]
        rw [iteB_true] at he
        cases hop : opA P o.op (r.env fi) r.s.H with
        | none => rw [hop] at he; cases he
        | some y =>
          have hkk : kindOf o.op = .alloc := by rw [← kd_eq ho]; exact h1
          obtain ⟨v, H', o', ob, en, g, _, _, _, hrun, _, _⟩ := allocs (P := P) (h.rep.nxt _ (Nat.le_refl _)) (o := o) (by unfold isAlloc; rw [hkk]) (opds_rel (base_env fi r) hrel) hop
          refine .inl ?_
          unfold Oper.wp
          rw [hrun w]
          exact hal hkk hwr _ ob (hrun w)
  · have hkk : kindOf o.op = .pure := by rw [← kd_eq ho]; exact h1
    have hex : ∃ u, ∀ w, (execOp a.eval o).run P w = .ok (.value u) w := by
      cases hop : o.op with
      | move x => exact ⟨a.eval x, fun w => by unfold execOp; rw [hop]; rfl⟩
      | assign x => exact ⟨a.eval x, fun w => by unfold execOp; rw [hop]; rfl⟩
      | call c =>
        rw [hop] at hkk
        obtain ⟨cal, cargs, ats⟩ := c
        cases cal with
        | builtin b => cases b <;> cases hkk
        | _ => cases hkk
      | _ => rw [hop] at hkk; cases hkk
    obtain ⟨u, hu⟩ := hex
    unfold wpOp
    simp only [ho]
    cases hw : Region.wanted o (yielded ops a.tmps) with
    | false => rw [if_neg (by simp)]; exact hno hw
    | true =>
      rw [if_pos rfl]
      refine .inl ?_
      unfold Oper.wp
      rw [hu w]
      exact hpu hkk hw u hu
end Go.Vex
namespace Go.Vex
variable {P : Program} {ρ : Rho} {H : Hp} {w : World} {fi : FI} {ops : Array Oper} {ρ0 : Rho} {s0 : St} {a0 : Act} {w0 : World}
variable {ahead : List Nat} {rest : List Step} {r : RS} {rr : Nat → Option Nat} {D : Nat → Prop} {a : Act}
/-- The plan's head is run. -/
theorem Inv.head (hx : Fx ops fi ρ0 s0 a0 w0) {call : CallF} (hc : CallOK P call) {s : Step} (h : Inv P fi ops ρ0 s0 a0 w0 ahead (s :: rest) r ρ rr D a w) (hD : ¬ D s.i) (hsk : kd (KS ops) s.i = .loud ∨ kd (KS ops) s.i = .alloc) (hpre : ∀ i, Bef (MS ops) i s.i → D i)
    {o : Oper} (ho : ops[s.i]? = some o) {x : RR} (h1 : oneOp P fi call ops.toList o r = some x) (hag : ∀ r', x = .go r' → againAll P fi ops.toList r' s.again = true) {K : Act → World → Prop} {Q : Exit → Act → World → Prop}
    (hgo : ∀ r', x = .go r' → ∀ ρ' a' w', Inv P fi ops ρ0 s0 a0 w0 (s.i :: ahead) rest r' ρ' rr (fun k => D k ∨ k = s.i) a' w' → K a' w')
    (hpn : ∀ v st, x = .pnc v st → ∀ ρ' u w', RV ρ' v u → Rep ρ' st.H w' → Ext ρ0 s0.H w0 ρ' st.H w' → st.tm = r.s.tm → DfR P ρ' st.df a.defers → Q (.panic (pe u)) a w') : wpOp P ops Q s.i K a w := by
  have hf := headF h.steps
  have hprea : ∀ i, Bef (MS ops) i s.i → i ∈ ahead := fun i hb => hf.pre i (by have := bef_lt hx.edges s.i i o (by simpa using ho) hb; have := hf.lt; simp at this ⊢; omega) hb
  have hrel : ∀ d ∈ slotsOf ops.toList o, ∀ v, r.env fi (.tmp d) = some v → RV ρ v (a.tmps.getD d undef) := by
    intro d hd v hv
    rw [h.curA hx ho hf.nin hd] at hv
    rw [h.cur hx ho hD hd]
    exact h.rel hx (fun i hb => ⟨hpre i hb, hprea i hb⟩) d v hv
  obtain ⟨b, hb, g1, g2⟩ := one_inv h1
  have hwr := wanted_ok (ops := ops) (tmps := a.tmps) (fun d hd v hv => hrel d (guard_mem hd) v hv) hb
  have main : ∀ v r' H' df' ρ' u ds w', putR fi r o.dst v df' H' = some r' → x = .go r' → RV ρ' v u → DfR P ρ' df' ds → Rep ρ' H' w' → Ext ρ r.s.H w ρ' H' w' →
      Inv P fi ops ρ0 s0 a0 w0 (s.i :: ahead) rest r' ρ' rr (fun k => D k ∨ k = s.i) (({ a with defers := ds } : Act).put o.dst u) w' := by
    intro v r' H' df' ρ' u ds w' hp hxr hv hds hrep hext
    have hn := h.plan hx ho hp
    obtain ⟨eH, eD, _⟩ := putR_inv hp
    have hdd : (({ a with defers := ds } : Act).put o.dst u).defers = ds := by cases o.dst <;> rfl
    refine ⟨hn.steps, hn.nd, hn.cnt, hn.alt, hn.acl, hn.dn, ?_, ?_, ?_, ?_, by rw [eH]; exact hrep, by rw [eH]; exact h.ext.trans hext, by rw [eD, hdd]; exact hds, put_size.trans h.size, ?_, ?_, hn.i7, ?_, ?_, ?_, ?_⟩
    · rintro k (hk | rfl)
      · exact h.dlt k hk
      · exact (Array.getElem?_eq_some_iff.1 ho).1
    · rintro k (hk | rfl) i hb
      · exact .inl (h.dcl k hk i hb)
      · exact .inl (hpre i hb)
    · intro k hk hkk
      rcases List.mem_cons.1 hk with rfl | hk
      · exact .inr rfl
      · exact .inl (h.i2 k hk hkk)
    · rintro k (hk | rfl) hkn
      · exact h.i3 k hk fun hm => hkn (List.mem_cons_of_mem _ hm)
      · exact absurd (by simp) hkn
    · intro k hk hDk d hd z hz
      by_cases hks : k = s.i
      · subst hks
        have hd' := (dst_of ho).symm.trans hd
        rw [env_put hp, if_pos hd'] at hz
        injection hz with hz; subst hz
        rw [put_getD d (fun d hd => by show d < a.tmps.size; rw [h.size]; exact hn.dn _ (by simp) d ((dst_of ho).trans hd)), if_pos hd']
        exact hv
      · have hka : k ∈ ahead := by
          rcases List.mem_cons.1 hk with e | hk
          · exact absurd e hks
          · exact hk
        rw [hn.env k hka d hd] at hz
        rw [put_getD_ne d (fun e => hks (hx.uniq hd ((dst_of ho).trans e)))]
        exact (h.i5 k hka (hDk.resolve_right hks) d hd z hz).mono hext.sub
    · intro d hd
      rw [put_getD_ne d (by have := hd s.i (.inr rfl); rwa [dst_of ho] at this)]
      exact h.i6 d fun k hk => hd k (.inl hk)
    · intro k hk hDk
      have hDk1 : ¬ D k := fun e => hDk (.inl e)
      rcases List.mem_cons.1 hk with rfl | hk
      · exact absurd (.inr rfl) hDk
      · have hold := h.i8 k hk hDk1
        rcases hf.again hsk k hk with h2 | h2 | ⟨h2, h3⟩
        · refine hold.pure hn hk ?_
          cases hkk : kd (KS ops) k with
          | pure => rfl
          | quiet => exact absurd hkk h2
          | alloc => exact absurd (h.i2 k hk (.inr hkk)) hDk1
          | loud => exact absurd (h.i2 k hk (.inl hkk)) hDk1
        · exact absurd (hpre k h2) hDk1
        · exact hold.again hn hk h3 (againAll_mem (hag r' hxr) h2)
    · rintro k (hDk | rfl) hkn
      · exact Early.keep hx h.dcl ho hD hDk rfl (fun x ob e1 e2 => by
          have hlt := (Array.getElem?_eq_some_iff.1 e1).1
          obtain ⟨z1, z2⟩ := hext.frame x hlt e2
          rw [eH]
          exact ⟨z1.trans e1, z2⟩) (h.i9 k hDk fun hm => hkn (List.mem_cons_of_mem _ hm))
      · exact absurd (by simp) hkn
    · rintro k k' y e1 e2 (d1 | rfl) (d2 | rfl) n1 n2
      · exact h.inj k k' y e1 e2 d1 d2 (fun hm => n1 (List.mem_cons_of_mem _ hm)) (fun hm => n2 (List.mem_cons_of_mem _ hm))
      · exact absurd (by simp) n2
      · exact absurd (by simp) n1
      · rfl
    · intro k y e
      exact Nat.lt_of_lt_of_le (h.rlt k y e) hext.size
  unfold wpOp
  simp only [ho, hwr]
  cases b with
  | false =>
    rw [if_neg (by simp)]
    obtain ⟨r', hp, e⟩ := g2 rfl
    exact hgo r' e ρ _ w (main _ r' _ _ ρ undef a.defers w hp e .undef h.df h.rep (Ext.refl _ _ _))
  | true =>
    rw [if_pos rfl]
    obtain ⟨y, out, hy, q1, q2⟩ := g1 rfl
    refine .inl (out_ok hc h.rep h.df (opds_rel (base_env fi r) hrel) hy q1 ?_)
    cases out with
    | val v df' H' =>
      intro ρ' u ds w' hv hd hr hext
      obtain ⟨r', hp, e4⟩ := ob_some (x := putR fi r o.dst v df' H') q2
      injection e4 with e4
      exact hgo r' e4.symm ρ' _ w' (main v r' H' df' ρ' u ds w' hp e4.symm hv hd hr hext)
    | pnc v H' =>
      intro ρ' u w' hv hr hext
      injection q2 with q2
      exact hpn v _ q2.symm ρ' u w' hv hr (h.ext.trans hext) rfl (h.df.mono hext.sub)
end Go.Vex
namespace Go.Vex
variable {P : Program} {ρ : Rho} {H : Hp} {w : World} {fi : FI} {ops : Array Oper} {ρ0 : Rho} {s0 : St} {a0 : Act} {w0 : World}
variable {ahead : List Nat} {rest : List Step} {r : RS} {rr : Nat → Option Nat} {D : Nat → Prop} {a : Act}
theorem binds_eq (e : Edge) : Region.binds .any e = binds e := by
  unfold Region.binds binds
  cases e.ground <;> rfl
/-- All ahead of a ready operation is done. -/
theorem ready_pre (hx : Fx ops fi ρ0 s0 a0 w0) {listed : Array Bool} (hcl : ∀ k, listed.getD k false = true → ∀ i, Bef (MS ops) i k → listed.getD i false = true) {j : Nat} (hj : j ∈ Region.ready .any ops listed) : ∀ i, Bef (MS ops) i j → listed.getD i false = true := by
  obtain ⟨_, o, ho, hall⟩ := mem_ready.1 hj
  intro i hb
  obtain ⟨x, hx1, hb1, h⟩ := (bef_iff hx.edges (by simpa using ho)).1 hb
  have hd := hall x hx1 (by rw [binds_eq]; exact hb1)
  rcases h with rfl | h
  · exact hd
  · exact hcl _ hd i h
/-- Some operation is ready, if not all are done. -/
theorem some_ready (hx : Fx ops fi ρ0 s0 a0 w0) {listed : Array Bool} (hs : listed.size = ops.size) : ∀ n j, j ≤ n → j < ops.size → listed.getD j true = false → Region.ready .any ops listed ≠ [] := by
  intro n
  induction n with
  | zero =>
    intro j hj hlt hf
    have hj0 : j = 0 := by omega
    subst hj0
    intro e
    have : 0 ∈ Region.ready .any ops listed := mem_ready.2 ⟨hf, ops[0], Array.getElem?_eq_getElem hlt, fun x hx1 hb => by
      have := edge_lt hx.edges (j := 0) (o := ops[0]) (by simp [hlt]) hx1 (by rw [← binds_eq]; exact hb)
      omega⟩
    rw [e] at this; cases this
  | succ n ih =>
    intro j hj hlt hf e
    by_cases hex : ∃ i, i < j ∧ listed.getD i true = false
    · obtain ⟨i, hi, hif⟩ := hex
      exact ih i (by omega) (by omega) hif e
    · have : j ∈ Region.ready .any ops listed := mem_ready.2 ⟨hf, ops[j], Array.getElem?_eq_getElem hlt, fun x hx1 hb => by
        have hl := edge_lt hx.edges (j := j) (o := ops[j]) (by simp [hlt]) hx1 (by rw [← binds_eq]; exact hb)
        cases hg : listed.getD x.on true with
        | false => exact absurd ⟨x.on, hl, hg⟩ hex
        | true =>
          have hxs : x.on < listed.size := by omega
          simp [Array.getD_eq_getD_getElem?, hxs] at hg ⊢
          exact hg⟩
      rw [e] at this; cases this
theorem listed_set {listed : Array Bool} {j : Nat} (hj : j < listed.size) (k : Nat) : (listed.setIfInBounds j true).getD k false = true ↔ listed.getD k false = true ∨ k = j := by
  by_cases e : k = j
  · subst e; simp [hj]
  · rw [getD_set_ne false (fun h => e h.symm)]; simp [e]
theorem listed_set_f {listed : Array Bool} {j : Nat} (hj : j < listed.size) (k : Nat) : (listed.setIfInBounds j true).getD k true = false ↔ listed.getD k true = false ∧ k ≠ j := by
  by_cases e : k = j
  · subst e; simp [hj]
  · rw [getD_set_ne true (fun h => e h.symm)]; simp [e]
theorem listed_dual {listed : Array Bool} {k : Nat} (hk : k < listed.size) : listed.getD k true = false ↔ ¬ listed.getD k false = true := by
  simp [Array.getD_eq_getD_getElem?, hk]
/-- The region's end. -/
theorem Inv.done (hx : Fx ops fi ρ0 s0 a0 w0) (h : Inv P fi ops ρ0 s0 a0 w0 ahead [] r ρ rr D a w) (hall : ∀ k, k < ops.size → D k) : SR P ρ fi [] r.s a w := by
  refine ⟨EnvS.nil (L := r.L) ⟨h.size, fun t v hv => ?_⟩, h.df, h.rep⟩
  have hv : r.env fi (.tmp t) = some v := hv
  by_cases hw : ∃ k ∈ ahead, dst ops k = some t
  · obtain ⟨k, hk, hd⟩ := hw
    exact h.i5 k hk (hall k (h.alt k hk)) t hd v hv
  · rw [h.i7 t fun k hk e => hw ⟨k, hk, e⟩] at hv
    rw [h.i6 t fun k hk e => hw ⟨k, (h.cover (h.dlt k hk)).resolve_right (by simp), e⟩]
    exact (hx.env.rel t v hv).mono h.ext.sub
theorem allLoc_inv {mask : Nat} : ∀ {L : List Oper}, allLoc mask L = true → ∀ o ∈ L, ∀ d, o.dst = some d → isGlob mask d = false := by
  intro L
  induction L with
  | nil => intro _ o ho; cases ho
  | cons p L ih =>
    intro h o ho d hd
    have h : optRec (allLoc mask L) (fun d => iteB (isGlob mask d) false (allLoc mask L)) p.dst = true := h
    rcases List.mem_cons.1 ho with rfl | ho
    · rw [hd] at h
      simp only [optRec_some] at h
      cases hg : isGlob mask d with
      | false => rfl
      | true => rw [hg] at h; cases h
    · cases hp : p.dst with
      | none => rw [hp] at h; exact ih h o ho d hd
      | some d' =>
        rw [hp] at h
        simp only [optRec_some] at h
        cases hg : isGlob mask d' with
        | false => rw [hg] at h; exact ih h o ho d hd
        | true => rw [hg] at h; cases h
theorem draw_main (hx : Fx ops fi ρ0 s0 a0 w0) {call : CallF} (hc : CallOK P call) {cr : CR} : ∀ (fuel : Nat) (U : List Nat) (listed : Array Bool) (ahead : List Nat) (rest : List Step) (r : RS) (ρ : Rho) (rr : Nat → Option Nat) (a : Act) (w : World),
    listed.size = ops.size → U.Nodup → U.length = fuel → (∀ j, j ∈ U ↔ j < ops.size ∧ listed.getD j true = false) →
    Inv P fi ops ρ0 s0 a0 w0 ahead rest r ρ rr (fun k => listed.getD k false = true) a w → drawA P fi call ops.toList rest r = some cr →
    (rest = [] ∨ ∃ s l, rest = s :: l ∧ ¬ (listed.getD s.i false = true) ∧ (kd (KS ops) s.i = .loud ∨ kd (KS ops) s.i = .alloc)) →
    wpAny P .any ops (CPost P ρ0 s0.H w0 fi cr) fuel listed a w := by
  intro fuel
  induction fuel with
  | zero =>
    intro U listed ahead rest r ρ rr a w hs hnd hlen hU h hd hh
    have hU0 : U = [] := List.length_eq_zero_iff.1 hlen
    have hall : ∀ k, k < ops.size → listed.getD k false = true := by
      intro k hk
      cases hf : listed.getD k false with
      | true => rfl
      | false =>
        have : k ∈ U := (hU k).2 ⟨hk, (listed_dual (by omega)).2 (by simp [hf])⟩
        rw [hU0] at this; cases this
    have hr0 : Region.ready .any ops listed = [] := by
      apply List.eq_nil_iff_forall_not_mem.2
      intro j hj
      obtain ⟨h0, o, ho, _⟩ := mem_ready.1 hj
      have hlt := (Array.getElem?_eq_some_iff.1 ho).1
      have := (listed_dual (k := j) (by omega)).1 h0
      exact this (hall j hlt)
    refine ⟨hr0, ?_⟩
    have hrest : rest = [] := by
      rcases hh with hh | ⟨s, l, rfl, hD, _⟩
      · exact hh
      · exact absurd (hall s.i (by have := (headF h.steps).lt; simpa using this)) hD
    subst hrest
    have hd : some (CR.norm r.s) = some cr := hd
    injection hd with hd; subst hd
    exact ⟨rfl, ρ, h.done hx hall, h.ext⟩
  | succ fuel ih =>
    intro U listed ahead rest r ρ rr a w hs hnd hlen hU h hd hh
    refine ⟨fun hr0 => ?_, fun j hj => ?_⟩
    · cases U with
      | nil => simp at hlen
      | cons j U =>
        obtain ⟨h1, h2⟩ := (hU j).1 (by simp)
        exact absurd hr0 (some_ready hx hs j j (Nat.le_refl _) h1 h2)
    · have hpre := ready_pre hx h.dcl hj
      obtain ⟨hun, o, ho, _⟩ := mem_ready.1 hj
      have hlt := (Array.getElem?_eq_some_iff.1 ho).1
      have hD : ¬ (listed.getD j false = true) := (listed_dual (by omega)).1 hun
      have hjU : j ∈ U := (hU j).2 ⟨hlt, hun⟩
      have hDD : (fun k => (listed.setIfInBounds j true).getD k false = true) = (fun k => listed.getD k false = true ∨ k = j) := funext fun k => propext (listed_set (by omega) k)
      have hU' : ∀ k, k ∈ U.erase j ↔ k < ops.size ∧ (listed.setIfInBounds j true).getD k true = false := by
        intro k
        rw [hnd.mem_erase_iff, hU k, listed_set_f (by omega) k]
        constructor
        · rintro ⟨a1, a2, a3⟩; exact ⟨a2, a3, a1⟩
        · rintro ⟨a1, a2, a3⟩; exact ⟨a3, a1, a2⟩
      -- whatever was done, the plan goes on
      have go : ∀ ahead' rest' r' ρ' rr' a' w', Inv P fi ops ρ0 s0 a0 w0 ahead' rest' r' ρ' rr' (fun k => listed.getD k false = true ∨ k = j) a' w' → drawA P fi call ops.toList rest' r' = some cr →
          wpAny P .any ops (CPost P ρ0 s0.H w0 fi cr) fuel (listed.setIfInBounds j true) a' w' := by
        intro ahead' rest' r' ρ' rr' a' w' hi hd'
        obtain ⟨ah, re, r2, ρ2, h1, h2, h3⟩ := Inv.advance hx rest' ahead' r' ρ' hi hd'
        rw [← hDD] at h1
        refine ih (U.erase j) _ ah re r2 ρ2 rr' a' w' (by simp [hs]) (hnd.erase j) (by rw [List.length_erase_of_mem hjU]; omega) hU' h1 h2 ?_
        rcases h3 with h3 | ⟨s, l, e, hn, hk⟩
        · exact .inl h3
        · exact .inr ⟨s, l, e, fun e2 => hn ((listed_set (by omega) s.i).1 e2), hk⟩
      by_cases hja : j ∈ ahead
      · exact h.late hx ho hja hD hpre fun a' hi => go _ _ _ _ _ _ _ hi hd
      · rcases hh with rfl | ⟨s, l, rfl, hsD, hsk⟩
        · exact absurd ((h.cover hlt).resolve_left hja) (by simp)
        · obtain ⟨hea, o', x, ho', hone, hth⟩ := drawA_cons hd
          have hcov := (h.cover hlt).resolve_left hja
          rw [List.map_cons] at hcov
          rcases List.mem_cons.1 hcov with e | hm
          · subst e
            have : o' = o := by
              rw [nth_eq] at ho'
              have : ops[s.i]? = some o' := by simpa using ho'
              rw [ho] at this; injection this with this; exact this.symm
            subst this
            refine h.head hx hc hsD hsk hpre ho hone (fun r' e => by subst e; exact (then_go hth).1) (fun r' e ρ' a' w' hi => by subst e; exact go _ _ _ _ _ _ _ hi (then_go hth).2) (fun v st e ρ' u w' hv hr hext htm hdf => ?_)
            subst e
            obtain ⟨hloc, h4⟩ := iteB_some (b := allLoc fi.mask ops.toList) (x := some (CR.pnc v st)) hth
            injection h4 with h4; subst h4
            refine ⟨u, rfl, ρ', hv, ⟨⟨h.size, fun t z hz => ?_⟩, hdf, hr⟩, hext⟩
            cases hg : isGlob fi.mask t with
            | false => rw [look_loc hg] at hz; cases hz
            | true =>
              have hno : ∀ k, dst ops k ≠ some t := by
                intro k e
                unfold dst at e
                cases hok : ops[k]? with
                | none => rw [hok] at e; cases e
                | some ok =>
                  rw [hok] at e
                  have := allLoc_inv hloc ok (by rw [Array.mem_toList_iff]; exact Array.mem_of_getElem? hok) t e
                  rw [hg] at this; cases this
              rw [look_glob hg, htm] at hz
              have hz' : r.env fi (.tmp t) = some z := by show look fi.mask r.L r.s.tm t = some z; rw [look_glob hg]; exact hz
              rw [h.i7 t fun k _ => hno k] at hz'
              rw [h.i6 t fun k _ => hno k]
              exact (hx.env.rel t z hz').mono hext.sub
          · exact h.soon hx hsD hsk ho hm hja hD hpre hea fun rr' a' w' hi => go _ _ _ _ _ _ _ hi hd
end Go.Vex
namespace Go.Vex
variable {P : Program} {ρ : Rho} {H : Hp} {w : World} {fi : FI} {ops : Array Oper} {ρ0 : Rho} {s0 : St} {a0 : Act} {w0 : World}
theorem drawPlan_inv {L : List Oper} {l : List Step} (h : drawPlan L = some l) : stepsOK L (L.map (kindOf ·.op)) (befAll L []) [] l = true ∧ l.length = L.length ∧ slotsOK L (befAll L []) = true ∧ edgesOK L = true := by
  unfold drawPlan at h
  cases hp : planOf L with
  | none => rw [hp] at h; cases h
  | some l' =>
    rw [hp] at h
    simp only [Option.bind_some] at h
    split at h
    · rename_i hc
      injection h with h; subst h
      simp only [Bool.and_eq_true, beq_iff_eq] at hc
      exact ⟨hc.1.1.1, hc.1.1.2, hc.1.2, hc.2⟩
    · cases h
theorem draw_ok (hm : P.follows .mixedOrders = true) {call : CallF} (hc : CallOK P call) : DrawOK P call := by
  intro fi id ops s cr h ρ a w hs
  obtain ⟨l, hl, hd⟩ := ob_some (x := drawPlan ops.toList) h
  obtain ⟨h1, h2, h3, h4⟩ := drawPlan_inv hl
  have hsame : Same w { w with drawn := w.drawn + 1 } := ⟨rfl, rfl, rfl⟩
  have hx : Fx ops fi ρ s a w := ⟨h3, h4, hs.env, fun b n d t hb hn => let ⟨r, base, e, q1, q0⟩ := hs.rep.rd b n d t hb; let ⟨c, el, fz, q2, _⟩ := q0 hn; ⟨r, _, q1, (Array.getElem?_eq_some_iff.1 q2).1⟩⟩
  refine wp_region_any hm ?_
  have h0 : ∀ k, (Array.replicate ops.size false).getD k false = false := by
    intro k; simp [Array.getD_eq_getD_getElem?, Array.getElem?_replicate]; split <;> rfl
  have hno : ∀ k, ¬ ((Array.replicate ops.size false).getD k false = true) := by intro k e; rw [h0] at e; cases e
  have inv : Inv P fi ops ρ s a w [] l ⟨[], s⟩ ρ (fun _ => none) (fun k => (Array.replicate ops.size false).getD k false = true) a { w with drawn := w.drawn + 1 } :=
    { steps := h1
      nd := by simp
      cnt := by simpa using h2
      alt := by simp
      acl := by simp
      dn := by simp
      dlt := fun k hk => absurd hk (hno k)
      dcl := fun k hk => absurd hk (hno k)
      i2 := by simp
      i3 := fun k hk => absurd hk (hno k)
      rep := hs.rep.same hsame
      ext := Ext.of_same hsame
      df := hs.df
      size := hs.env.size
      i5 := by simp
      i6 := fun _ _ => rfl
      i7 := fun _ _ => rfl
      i8 := by simp
      i9 := fun k hk => absurd hk (hno k)
      inj := fun k k' x e => by cases e
      rlt := fun k x e => by cases e }
  obtain ⟨ah, re, r2, ρ2, i1, i2, i3⟩ := Inv.advance hx l [] ⟨[], s⟩ ρ inv hd
  exact draw_main hx hc ops.size (List.range ops.size) (Array.replicate ops.size false) ah re r2 ρ2 _ a _ (by simp) List.nodup_range (by simp)
    (fun j => by
      simp only [List.mem_range]
      refine ⟨fun hj => ⟨hj, by simp [Array.getD_eq_getD_getElem?, hj]⟩, fun hj => hj.1⟩) i1 i2 i3
end Go.Vex
