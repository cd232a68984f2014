/-
  Code, calls and deferred calls of the evaluator are sound.
  No condition.
-/
import Derived.Test.YtmpabjogookkpaaGreatVxD
import Derived.Recover
import Derived.Orders
import Derived.Scope
set_option linter.unusedVariables false
namespace Go.Vex
variable {P : Program} {ρ : Rho} {H : Hp} {w : World}
/-! ### An operation looks at its operands alone -/
theorem mapO_congr {e e' : Env} : ∀ {l : List Operand}, (∀ x ∈ l, e x = e' x) → mapO e l = mapO e' l := by
  intro l
  induction l with
  | nil => intro _; rfl
  | cons x l ih =>
    intro h
    show (ob (e x) fun y => ob (mapO e l) fun r => some (y :: r)) = (ob (e' x) fun y => ob (mapO e' l) fun r => some (y :: r))
    rw [h x (by simp), ih fun y hy => h y (by simp [hy])]
theorem fill_congr {e e' : Env} {place : Nat → Option (Nat × Nat)} : ∀ {ps : List (Nat × Operand)} {cs : List AV}, (∀ p ∈ ps, e p.2 = e' p.2) → fillParts e place ps cs = fillParts e' place ps cs := by
  intro ps
  induction ps with
  | nil => intro cs _; rfl
  | cons p ps ih =>
    intro cs h
    show ob (fillOne e place cs p) (fillParts e place ps) = ob (fillOne e' place cs p) (fillParts e' place ps)
    have h1 : fillOne e place cs p = fillOne e' place cs p := by unfold fillOne; rw [h p (by simp)]
    rw [h1]
    congr 1
    funext cs'
    exact ih fun q hq => h q (by simp [hq])
theorem optNat_congr {e e' : Env} {d : Nat} {x : Option Operand} (h : ∀ y ∈ x.toArray, e y = e' y) : optNat e d x = optNat e' d x := by
  cases x with
  | none => rfl
  | some x => show ob (e x) AV.asNat = ob (e' x) AV.asNat; rw [h x (by simp)]
theorem sliceOf_congr {e e' : Env} {n c : Nat} {lo hi mx : Option Operand} (hl : ∀ y ∈ lo.toArray, e y = e' y) (hh : ∀ y ∈ hi.toArray, e y = e' y) (hm : ∀ y ∈ mx.toArray, e y = e' y) :
    sliceOf e n c lo hi mx = sliceOf e' n c lo hi mx := by
  unfold sliceOf
  rw [optNat_congr hl, optNat_congr hh, optNat_congr hm]
theorem slice_congr {e e' : Env} {t : TypeId} {x : Operand} {lo hi mx : Option Operand} (hx : e x = e' x) (hl : ∀ y ∈ lo.toArray, e y = e' y) (hh : ∀ y ∈ hi.toArray, e y = e' y) (hm : ∀ y ∈ mx.toArray, e y = e' y) :
    opSlice P e H t x lo hi mx = opSlice P e' H t x lo hi mx := by
  have a1 : ∀ q b off, slArr P e H q b off lo hi mx = slArr P e' H q b off lo hi mx := fun q b off => by unfold slArr; rw [sliceOf_congr hl hh hm]
  have a2 : ∀ b off, slPtr P e H t b off lo hi mx = slPtr P e' H t b off lo hi mx := fun b off => by unfold slPtr; simp only [a1]
  have a3 : ∀ sz b off len st, slOpn e H sz b off len st lo hi mx = slOpn e' H sz b off len st lo hi mx := fun sz b off len st => by unfold slOpn; simp only [optNat_congr hh, optNat_congr hl]
  have a4 : ∀ sz b off len k, slFix e H sz b off len k lo hi mx = slFix e' H sz b off len k lo hi mx := fun sz b off len k => by unfold slFix; rw [sliceOf_congr hl hh hm]
  have a5 : ∀ sz b off len c, slCap e H sz b off len c lo hi mx = slCap e' H sz b off len c lo hi mx := fun sz b off len c => by cases c; exact a4 _ _ _ _ _; exact a3 _ _ _ _ _
  have a6 : ∀ s, slStr e H s lo hi = slStr e' H s lo hi := fun s => by unfold slStr; rw [sliceOf_congr hl hh (mx := none) (by simp)]
  have a7 : ∀ n c, sliceOf e n c lo hi mx = sliceOf e' n c lo hi mx := fun n c => sliceOf_congr hl hh hm
  unfold opSlice
  simp only [hx, a2, a5, a6, a7]
theorem call_congr {e e' : Env} {c : Call} (h : ∀ x ∈ c.operands, e x = e' x) : callA P c e H = callA P c e' H := by
  obtain ⟨cal, args, ats⟩ := c
  have h1 : opds e args.toList = opds e' args.toList := mapO_congr fun x hx => h x (by simp at hx; simp [Call.operands, hx])
  unfold callA
  simp only [h1]
  cases cal with
  | value f => simp only [h f (by simp [Call.operands])]
  | _ => rfl
/-- What an operation does depends on its operands alone. -/
theorem opA_congr {e e' : Env} {o : Op} (h : ∀ x ∈ o.operands, e x = e' x) : opA P o e H = opA P o e' H := by
  cases o
  case slice t x lo hi mx =>
    simp only [Op.operands] at h
    exact slice_congr (h x (by simp)) (fun y hy => h y (by simp at hy ⊢; simp [hy])) (fun y hy => h y (by simp at hy ⊢; simp [hy])) (fun y hy => h y (by simp at hy ⊢; simp [hy]))
  case build t ps =>
    simp only [Op.operands] at h
    have hp : ∀ p ∈ ps.toList, e p.2 = e' p.2 := fun p hp => h p.2 (by simp; exact ⟨p.1, by simpa using hp⟩)
    unfold opA opBuild
    simp only [fun pl cs => fill_congr (place := pl) (cs := cs) hp]
  case buildSlice t n ps =>
    simp only [Op.operands] at h
    have hp : ∀ p ∈ ps.toList, e p.2 = e' p.2 := fun p hp => h p.2 (by simp; exact ⟨p.1, by simpa using hp⟩)
    unfold opA opBuildSlice
    simp only [fun pl cs => fill_congr (place := pl) (cs := cs) hp]
  case makeFunc fn a b =>
    simp only [Op.operands] at h
    have h1 : opds e a.toList = opds e' a.toList := mapO_congr fun x hx => h x (by simp at hx; simp [hx])
    have h2 : opds e b.toList = opds e' b.toList := mapO_congr fun x hx => h x (by simp at hx; simp [hx])
    unfold opA opFunc
    simp only [h1, h2]
  case call c => exact call_congr h
  case defer c => unfold opA opDefer; simp only [call_congr (P := P) (H := H) (c := c) h]
  all_goals first
    | rfl
    | (simp only [Op.operands] at h
       simp only [opA, opMove, opPick, opBox, opLoad, opStore, opNil, opBin, opUn, opIface, opMakeSlice, opFieldAddr, opField, opIndexAddr, opIndex, opLookup, opMapUpd, opRange, opNext, opAssert, opExtract, opPanic]
       simp_all
       done)
/-! ### Slots -/
structure EnvS (ρ : Rho) (fi : FI) (L : Loc) (tm : Tm) (tmps : Array Value) : Prop where
  size : tmps.size = fi.n
  rel : ∀ t v, look fi.mask L tm t = some v → RV ρ v (tmps.getD t undef)
theorem EnvS.eval {fi : FI} {L : Loc} {tm : Tm} {a : Act} (h : EnvS ρ fi L tm a.tmps) : EnvR ρ (envOf fi.mask L tm) a.eval := by
  intro x v hx
  cases x with
  | tmp t => exact h.rel t v hx
  | const c => exact cv_flat hx ρ
  | global g => cases hx
  | func f => injection hx with hx; subst hx; exact .func (va := []) (vc := []) .nil .nil
theorem EnvS.mono {ρ' : Rho} (hs : ρ.sub ρ') {fi : FI} {L : Loc} {tm : Tm} {tmps : Array Value} (h : EnvS ρ fi L tm tmps) : EnvS ρ' fi L tm tmps := ⟨h.size, fun t v ht => (h.rel t v ht).mono hs⟩
theorem look_glob {mask : Nat} {L : Loc} {tm : Tm} {t : Nat} (h : isGlob mask t = true) : look mask L tm t = tm.get .any t := by unfold look; rw [h]; rfl
theorem look_loc {mask : Nat} {L : Loc} {tm : Tm} {t : Nat} (h : isGlob mask t = false) : look mask L tm t = assocL L t := by unfold look; rw [h]; rfl
theorem EnvS.nil {fi : FI} {L : Loc} {tm : Tm} {tmps : Array Value} (h : EnvS ρ fi L tm tmps) : EnvS ρ fi [] tm tmps := by
  refine ⟨h.size, fun t v ht => ?_⟩
  cases hg : isGlob fi.mask t with
  | true => rw [look_glob hg] at ht; exact h.rel t v (by rw [look_glob hg]; exact ht)
  | false => rw [look_loc hg] at ht; cases ht
theorem assocL_cons (d t : Nat) (v : AV) (L : Loc) : assocL ((d, v) :: L) t = if d = t then some v else assocL L t := by
  show iteB (Nat.beq d t) (some v) (assocL L t) = _
  by_cases h : d = t
  · subst h; rw [if_pos rfl, Nat.beq_refl, iteB_true]
  · rw [if_neg h]
    have : Nat.beq d t = false := by cases hb : Nat.beq d t with | false => rfl | true => exact absurd (beq_eq hb) h
    rw [this, iteB_false]
theorem putAt_look {fi : FI} {L L' : Loc} {tm tm' : Tm} {d : Nat} {v : AV} (h : putAt fi L tm d v = some (L', tm')) : d < fi.n ∧ ∀ t, look fi.mask L' tm' t = if t = d then some v else look fi.mask L tm t := by
  obtain ⟨hb, h1⟩ := iteB_some h
  refine ⟨blt_lt hb, fun t => ?_⟩
  cases hg : isGlob fi.mask d with
  | true =>
    rw [hg, iteB_true] at h1
    obtain ⟨tm1, ht, h2⟩ := ob_some (x := tm.set .any v d) h1
    injection h2 with h2
    simp only [Prod.mk.injEq] at h2
    obtain ⟨rfl, rfl⟩ := h2
    cases hgt : isGlob fi.mask t with
    | true => rw [look_glob hgt, look_glob hgt]; exact T.set_get .any v tm d _ ht t
    | false =>
      rw [look_loc hgt, look_loc hgt, if_neg]
      intro e; subst e; rw [hg] at hgt; cases hgt
  | false =>
    rw [hg] at h1
    have h1 : some ((d, v) :: L, tm) = some (L', tm') := h1
    injection h1 with h1
    simp only [Prod.mk.injEq] at h1
    obtain ⟨rfl, rfl⟩ := h1
    cases hgt : isGlob fi.mask t with
    | true =>
      rw [look_glob hgt, look_glob hgt, if_neg]
      intro e; subst e; rw [hg] at hgt; cases hgt
    | false =>
      rw [look_loc hgt, look_loc hgt, assocL_cons]
      by_cases e : d = t
      · rw [if_pos e, if_pos e.symm]
      · rw [if_neg e, if_neg fun e' => e e'.symm]
theorem getD_set (tmps : Array Value) (d t : Nat) (u : Value) (hd : d < tmps.size) : (tmps.setIfInBounds d u).getD t undef = if t = d then u else tmps.getD t undef := by
  by_cases e : t = d
  · subst e; simp [hd]
  · rw [if_neg e]; simp [Array.getElem?_setIfInBounds_ne (Ne.symm e)]
theorem EnvS.put {fi : FI} {L L' : Loc} {tm tm' : Tm} {tmps : Array Value} (h : EnvS ρ fi L tm tmps) {d : Nat} {v : AV} {u : Value} (hp : putAt fi L tm d v = some (L', tm')) (hv : RV ρ v u) : EnvS ρ fi L' tm' (tmps.setIfInBounds d u) := by
  obtain ⟨hlt, hl⟩ := putAt_look hp
  refine ⟨by simp [h.size], fun t x hx => ?_⟩
  rw [getD_set _ _ _ _ (by rw [h.size]; exact hlt)]
  rw [hl] at hx
  by_cases e : t = d
  · rw [if_pos e] at hx ⊢; injection hx with hx; subst hx; exact hv
  · rw [if_neg e] at hx ⊢; exact h.rel t x hx
/-- Deferred calls. -/
def DfR (P : Program) (ρ : Rho) (df : List (FuncId × List AV)) (ds : List Deferred) : Prop := All2 (fun p d => enterOK P p.1 = true ∧ DRel ρ p.1 p.2 d) df ds
theorem DRel.mono {ρ' : Rho} (hs : ρ.sub ρ') {f : FuncId} {args : List AV} {d : Deferred} (h : DRel ρ f args d) : DRel ρ' f args d :=
  let ⟨cap, vs, e, h1⟩ := h; ⟨cap, vs, e, RVs.mono hs h1⟩
theorem DfR.mono {ρ' : Rho} (hs : ρ.sub ρ') {df : List (FuncId × List AV)} {ds : List Deferred} (h : DfR P ρ df ds) : DfR P ρ' df ds := h.imp fun _ _ q => ⟨q.1, q.2.mono hs⟩
structure SR (P : Program) (ρ : Rho) (fi : FI) (L : Loc) (s : St) (a : Act) (w : World) : Prop where
  env : EnvS ρ fi L s.tm a.tmps
  df : DfR P ρ s.df a.defers
  rep : Rep ρ s.H w
def pe (u : Value) : List PanicEntry := [{ v := u, recovered := false }]
/-- What a piece of code ends in. -/
def CPost (P : Program) (ρ0 : Rho) (H0 : Hp) (w0 : World) (fi : FI) (r : CR) (e : Exit) (a : Act) (w : World) : Prop :=
  match r with
  | .norm s => e = .normal ∧ ∃ ρ, SR P ρ fi [] s a w ∧ Ext ρ0 H0 w0 ρ s.H w
  | .exit id s => e = .exit id ∧ ∃ ρ, SR P ρ fi [] s a w ∧ Ext ρ0 H0 w0 ρ s.H w
  | .ret s => e = .ret ∧ ∃ ρ, SR P ρ fi [] s a w ∧ Ext ρ0 H0 w0 ρ s.H w
  | .pnc v s => ∃ u, e = .panic (pe u) ∧ ∃ ρ, RV ρ v u ∧ SR P ρ fi [] s a w ∧ Ext ρ0 H0 w0 ρ s.H w
/-- What a call ends in. -/
def KPost (ρ0 : Rho) (H0 : Hp) (w0 : World) (k : KR) (e : Ending) (w : World) : Prop :=
  match k with
  | .ret v H => ∃ ρ u, e = .returned u ∧ RV ρ v u ∧ Rep ρ H w ∧ Ext ρ0 H0 w0 ρ H w
  | .pnc v H => ∃ ρ u, e = .panicked (pe u) ∧ RV ρ v u ∧ Rep ρ H w ∧ Ext ρ0 H0 w0 ρ H w
def CallOK (P : Program) (call : CallF) : Prop :=
  ∀ f args H k, call f args H = some k → enterOK P f = true → ∀ (ρ : Rho) (w : World) (us : List Value), All2 (RV ρ) args us → Rep ρ H w → Calls P f us.toArray w (KPost ρ H w k)
/-! ### An operation's end -/
inductive Out where
  | val (v : AV) (df : List (FuncId × List AV)) (H : Hp)
  | pnc (v : AV) (H : Hp)
def outOf (call : CallF) (df : List (FuncId × List AV)) (H : Hp) : OR → Option Out
  | .val v H' => some (.val v df H')
  | .skip H' => some (.val .undef df H')
  | .call f args => match call f args H with | some (.ret v H') => some (.val v df H') | some (.pnc v H') => some (.pnc v H') | none => none
  | .dfr f args => some (.val .undef ((f, args) :: df) H)
  | .pnc v => some (.pnc v H)
noncomputable def outRR (fi : FI) (r : RS) (dst : Option Tmp) : Out → Option RR
  | .val v df H => goRS (putR fi r dst v df H)
  | .pnc v H => some (.pnc v ⟨r.s.tm, r.s.df, H⟩)
theorem goOp_out {fi : FI} {call : CallF} {r : RS} {dst : Option Tmp} {x : OR} {y : RR} (h : goOp fi call r dst x = some y) : ∃ out, outOf call r.s.df r.s.H x = some out ∧ outRR fi r dst out = some y := by
  cases x with
  | val v H' => exact ⟨_, rfl, h⟩
  | skip H' => exact ⟨_, rfl, h⟩
  | dfr f args => exact ⟨_, rfl, h⟩
  | pnc v => exact ⟨_, rfl, h⟩
  | call f args =>
    obtain ⟨k, hk, h1⟩ := ob_some (x := call f args r.s.H) h
    cases k with
    | ret v H' => exact ⟨.val v r.s.df H', by simp [outOf, hk], h1⟩
    | pnc v H' => exact ⟨.pnc v H', by simp [outOf, hk], h1⟩
def OutK (P : Program) (ρ : Rho) (H : Hp) (w : World) (a : Act) (dst : Option Tmp) (K : Act → World → Prop) (Q : Exit → Act → World → Prop) : Out → Prop
  | .val v df H' => ∀ ρ' u ds w', RV ρ' v u → DfR P ρ' df ds → Rep ρ' H' w' → Ext ρ H w ρ' H' w' → K (({ a with defers := ds } : Act).put dst u) w'
  | .pnc v H' => ∀ ρ' u w', RV ρ' v u → Rep ρ' H' w' → Ext ρ H w ρ' H' w' → Q (.panic (pe u)) a w'
/-- An operation, its operands known. -/
theorem out_ok {call : CallF} (hc : CallOK P call) (h : Rep ρ H w) {a : Act} {df : List (FuncId × List AV)} (hd : DfR P ρ df a.defers) {o : Oper} {e : Env} (he : ∀ x ∈ o.op.operands, ∀ v, e x = some v → RV ρ v (a.eval x))
    {x : OR} (hx : opA P o.op e H = some x) {out : Out} (ho : outOf call df H x = some out) {K : Act → World → Prop} {Q : Exit → Act → World → Prop} (hk : OutK P ρ H w a o.dst K Q out) : o.wp P a w K Q := by
  classical
  let e' : Env := fun y => if y ∈ o.op.operands then e y else none
  have he' : EnvR ρ e' a.eval := by
    intro y v hy
    simp only [e'] at hy
    split at hy
    · rename_i hm; exact he y hm v hy
    · cases hy
  have hx' : opA P o.op e' H = some x := by
    rw [← hx]
    exact opA_congr fun y hy => by simp only [e']; rw [if_pos hy]
  have hop := opA_ok h he' hx'
  unfold Oper.wp
  cases x with
  | val v H' =>
    obtain ⟨ρ', w', u, hrun, hr, hext, hv⟩ := hop
    injection ho with ho; subst ho
    rw [hrun]
    exact hk ρ' u a.defers w' hv (hd.mono hext.sub) hr hext
  | skip H' =>
    obtain ⟨ρ', w', hrun, hr, hext⟩ := hop
    injection ho with ho; subst ho
    rw [hrun]
    exact hk ρ' undef a.defers w' .undef (hd.mono hext.sub) hr hext
  | dfr f args =>
    obtain ⟨hen, d, hrun, hrel⟩ := hop
    injection ho with ho; subst ho
    rw [hrun]
    exact hk ρ undef (d :: a.defers) w .undef (.cons ⟨hen, hrel⟩ hd) h (Ext.refl _ _ _)
  | pnc v =>
    obtain ⟨u, hrun, hv⟩ := hop
    injection ho with ho; subst ho
    rw [hrun]
    exact hk ρ u w hv h (Ext.refl _ _ _)
  | call f args =>
    obtain ⟨hen, vs, hrun, hall⟩ := hop
    rw [hrun]
    simp only [outOf] at ho
    split at ho
    · rename_i v H' hcall
      injection ho with ho; subst ho
      refine Calls.mono (hc f args H _ hcall hen ρ w vs hall h) fun en w' hp => ?_
      obtain ⟨ρ', u, rfl, hv, hr, hext⟩ := hp
      exact hk ρ' u a.defers w' hv (hd.mono hext.sub) hr hext
    · rename_i v H' hcall
      injection ho with ho; subst ho
      refine Calls.mono (hc f args H _ hcall hen ρ w vs hall h) fun en w' hp => ?_
      obtain ⟨ρ', u, rfl, hv, hr, hext⟩ := hp
      exact hk ρ' u w' hv hr hext
    · cases ho
end Go.Vex
namespace Go.Vex
variable {P : Program} {ρ : Rho} {H : Hp} {w : World}
/-! ### Guards -/
def boolOf (u : Value) : Option Bool := match u with | .bool c => some c | _ => none
theorem isB_rel {v : AV} {u : Value} {want b : Bool} (h : isB v want = some b) (hv : RV ρ v u) : (boolOf u == some want) = b := by
  cases hv
  case bool c =>
    have h : some (c == want) = some b := h
    rw [← Option.some.inj h]
    cases c <;> cases want <;> decide
  case undef =>
    have h : some false = some b := h
    rw [← Option.some.inj h]
    cases want <;> decide
  all_goals cases h
theorem yielded_getD (ops : Array Oper) (tmps : Array Value) (j : Nat) {o : Oper} {d : Tmp} (ho : ops[j]? = some o) (hd : o.dst = some d) :
    yielded ops tmps j = boolOf (tmps.getD d undef) := by
  unfold yielded
  simp only [ho, Option.bind_some, hd]
  cases h : tmps[d]? with
  | none => simp [Array.getD_eq_getD_getElem?, h, undef, boolOf]
  | some v => simp [Array.getD_eq_getD_getElem?, h]; cases v <;> rfl
/-- The slot that an operation's guard looks at. -/
def guardOf (ops : List Oper) (o : Oper) : Option Tmp := o.guard.bind fun g => (ops[g.1]?).bind (·.dst)
theorem wanted_ok {ops : Array Oper} {o : Oper} {e : Env} {tmps : Array Value} (he : ∀ d, guardOf ops.toList o = some d → ∀ v, e (.tmp d) = some v → RV ρ v (tmps.getD d undef)) {b : Bool} (h : wanted ops.toList o e = some b) :
    Region.wanted o (yielded ops tmps) = b := by
  unfold wanted at h
  unfold Region.wanted
  cases hg : o.guard with
  | none => rw [hg] at h; injection h with h
  | some g =>
    rw [hg] at h
    obtain ⟨d, hd, h1⟩ := ob_some (x := guardSlot ops.toList g.1) h
    obtain ⟨v, hv, h2⟩ := ob_some h1
    obtain ⟨o', ho', hd'⟩ := ob_some hd
    rw [nth_eq] at ho'
    have ho2 : ops[g.1]? = some o' := by simpa using ho'
    have hrel := he d (by unfold guardOf; rw [hg]; simp only [Option.bind_some, ho', hd']) v hv
    show (yielded ops tmps g.1 == some g.2) = b
    rw [yielded_getD ops tmps g.1 ho2 hd']
    exact isB_rel h2 hrel
/-! ### Regions in the text's order -/
theorem putR_inv {fi : FI} {r r' : RS} {dst : Option Tmp} {v : AV} {df : List (FuncId × List AV)} {H' : Hp} (h : putR fi r dst v df H' = some r') :
    r'.s.H = H' ∧ r'.s.df = df ∧ ((dst = none ∧ r'.L = r.L ∧ r'.s.tm = r.s.tm) ∨ (∃ d, dst = some d ∧ putAt fi r.L r.s.tm d v = some (r'.L, r'.s.tm))) := by
  unfold putR at h
  cases dst with
  | none => injection h with h; subst h; exact ⟨rfl, rfl, .inl ⟨rfl, rfl, rfl⟩⟩
  | some d =>
    obtain ⟨q, hq, h1⟩ := ob_some (x := putAt fi r.L r.s.tm d v) h
    injection h1 with h1; subst h1
    exact ⟨rfl, rfl, .inr ⟨d, rfl, hq⟩⟩
theorem SR.put {fi : FI} {r r' : RS} {dst : Option Tmp} {v : AV} {df : List (FuncId × List AV)} {H' : Hp} (h : putR fi r dst v df H' = some r') {ρ : Rho} {a : Act} {u : Value} (he : EnvS ρ fi r.L r.s.tm a.tmps) (hv : RV ρ v u) {ds : List Deferred} (hd : DfR P ρ df ds) (hr : Rep ρ H' w) :
    SR P ρ fi r'.L r'.s (({ a with defers := ds } : Act).put dst u) w := by
  obtain ⟨e1, e2, h1⟩ := putR_inv h
  subst e1; subst e2
  rcases h1 with ⟨rfl, e3, e4⟩ | ⟨d, rfl, hp⟩
  · exact ⟨by rw [e3, e4]; exact he, hd, hr⟩
  · exact ⟨he.put hp hv, hd, hr⟩
theorem DfR.eta {a : Act} : ({ a with defers := a.defers } : Act) = a := rfl
theorem one_ok {fi : FI} {call : CallF} (hc : CallOK P call) {ops : Array Oper} {i : Nat} {o : Oper} (ho : ops[i]? = some o) {r : RS} {x : RR} (hx : oneOp P fi call ops.toList o r = some x) {a : Act} (h : SR P ρ fi r.L r.s a w) {K : Act → World → Prop} {Q : Exit → Act → World → Prop}
    (hgo : ∀ r', x = .go r' → ∀ ρ' a' w', SR P ρ' fi r'.L r'.s a' w' → Ext ρ r.s.H w ρ' r'.s.H w' → K a' w')
    (hp : ∀ v s, x = .pnc v s → ∀ ρ' u w', RV ρ' v u → SR P ρ' fi [] s a w' → Ext ρ r.s.H w ρ' s.H w' → Q (.panic (pe u)) a w') : wpOp P ops Q i K a w := by
  obtain ⟨b, hb, h1⟩ := ob_some hx
  have hw := wanted_ok (ρ := ρ) (tmps := a.tmps) (fun d _ v hv => h.env.eval _ v hv) hb
  unfold wpOp
  simp only [ho, hw]
  cases b with
  | false =>
    obtain ⟨r', hr', h2⟩ := ob_some (x := putR fi r o.dst .undef r.s.df r.s.H) h1
    injection h2 with h2; subst h2
    rw [if_neg (by simp)]
    have := SR.put (P := P) (w := w) hr' h.env .undef h.df h.rep
    refine hgo r' rfl ρ _ w this ?_
    rw [(putR_inv hr').1]; exact Ext.refl _ _ _
  | true =>
    obtain ⟨y, hy, h2⟩ := ob_some (x := opA P o.op (r.env fi) r.s.H) h1
    obtain ⟨out, ho1, ho2⟩ := goOp_out h2
    rw [if_pos rfl]
    refine .inl (out_ok hc h.rep h.df (fun x _ v hv => h.env.eval x v hv) hy ho1 ?_)
    cases out with
    | val v df H' =>
      intro ρ' u ds w' hv hd hr hext
      obtain ⟨r', hr', h3⟩ := ob_some (x := putR fi r o.dst v df H') ho2
      injection h3 with h3; subst h3
      have := SR.put (P := P) (w := w') hr' (h.env.mono hext.sub) hv hd hr
      refine hgo r' rfl ρ' _ w' this ?_
      rw [(putR_inv hr').1]; exact hext
    | pnc v H' =>
      intro ρ' u w' hv hr hext
      injection ho2 with ho2; subst ho2
      exact hp v _ rfl ρ' u w' hv ⟨(h.env.mono hext.sub).nil, h.df.mono hext.sub, hr⟩ hext
theorem ops_ok {fi : FI} {call : CallF} (hc : CallOK P call) {ops : Array Oper} {ρ0 : Rho} {H0 : Hp} {w0 : World} : ∀ (l : List Oper) (i : Nat), ops.toList.drop i = l → ∀ (r : RS) (cr : CR) (ρ : Rho) (a : Act) (w : World),
    opsA P fi call ops.toList l r = some cr → SR P ρ fi r.L r.s a w → Ext ρ0 H0 w0 ρ r.s.H w → wpOps P ops (CPost P ρ0 H0 w0 fi cr) (List.range' i l.length) a w := by
  intro l
  induction l with
  | nil =>
    intro i hi r cr ρ a w h hs hext
    have h : some (CR.norm r.s) = some cr := h
    injection h with h; subst h
    exact ⟨rfl, ρ, ⟨hs.env.nil, hs.df, hs.rep⟩, hext⟩
  | cons o l ih =>
    intro i hi r cr ρ a w h hs hext
    have ho : ops[i]? = some o := by
      have : (ops.toList.drop i)[0]? = some o := by rw [hi]; rfl
      simpa using this
    have hl : ops.toList.drop (i + 1) = l := by
      have : (ops.toList.drop i).drop 1 = l := by rw [hi]; rfl
      simpa [List.drop_drop] using this
    obtain ⟨x, hx, h1⟩ := ob_some (x := oneOp P fi call ops.toList o r) h
    rw [List.length_cons, List.range'_succ, wpOps_cons]
    refine one_ok hc ho hx hs (fun r' hr' ρ' a' w' hs' hext' => ?_) (fun v s hv ρ' u w' hu hs' hext' => ?_)
    · subst hr'
      exact ih (i + 1) hl r' cr ρ' a' w' h1 hs' (hext.trans hext')
    · subst hv
      have h1 : some (CR.pnc v s) = some cr := h1
      injection h1 with h1; subst h1
      exact ⟨u, rfl, ρ', hu, hs', hext.trans hext'⟩
/-! ### Loops -/
def LoopWp (P : Program) (c : Code) (Q : Exit → Act → World → Prop) (a : Act) (w : World) : Prop :=
  ∀ (b : Frame) (k : List Item) (cs : List Frame), ∃ e a' w', Q e a' w' ∧ Arrives P (lone (b.at a (.code c :: .inLoop c :: k)) cs w) b k cs e a' w'
theorem LoopWp.wp {c : Code} {Q : Exit → Act → World → Prop} {a : Act} (h : LoopWp P c Q a w) : (Code.loop c).wp P Q a w := by
  intro b k cs
  obtain ⟨e, a', w', hq, harr⟩ := h b k cs
  exact ⟨e, a', w', hq, .of_steps (.one step_loop) harr⟩
theorem LoopWp.unroll {c : Code} {Q : Exit → Act → World → Prop} {a : Act} (h : c.wp P (Exit.then (LoopWp P c Q) Q) a w) : LoopWp P c Q a w := by
  intro b k cs
  obtain ⟨e, a₁, w₁, hq, harr⟩ := h b (.inLoop c :: k) cs
  cases e with
  | normal =>
    obtain ⟨e₂, a₂, w₂, hq₂, harr₂⟩ := hq b k cs
    exact ⟨e₂, a₂, w₂, hq₂, .of_steps (Steps.trans harr (.one step_inLoop)) harr₂⟩
  | exit id => exact ⟨_, a₁, w₁, hq, .pass (x := .inLoop c) rfl (fun _ _ => .inl (by simp)) harr⟩
  | goto l => exact ⟨_, a₁, w₁, hq, .pass (x := .inLoop c) rfl (fun _ _ => .inl (by simp)) harr⟩
  | ret => exact ⟨_, a₁, w₁, hq, .pass (x := .inLoop c) rfl (fun _ _ => .inl (by simp)) harr⟩
  | panic ch => exact ⟨_, a₁, w₁, hq, .pass (x := .inLoop c) rfl (fun _ _ => .inl (by simp)) harr⟩
  | outgrown => exact ⟨_, a₁, w₁, hq, .pass (x := .inLoop c) rfl (fun _ _ => .inl (by simp)) harr⟩
/-- A loop's wp is taken at its first round's head. -/
def wpV (P : Program) (c : Code) (Q : Exit → Act → World → Prop) (a : Act) (w : World) : Prop :=
  match c with
  | .loop c => LoopWp P c Q a w
  | c => c.wp P Q a w
theorem wpV.wp {c : Code} {Q : Exit → Act → World → Prop} {a : Act} (h : wpV P c Q a w) : c.wp P Q a w := by
  cases c <;> first | exact h | exact LoopWp.wp h
def CodeOK (P : Program) (ev : EvF) : Prop :=
  ∀ fi c s r, ev fi c s = some r → ∀ (ρ : Rho) (a : Act) (w : World), SR P ρ fi [] s a w → wpV P c (CPost P ρ s.H w fi r) a w
theorem CPost.trans {ρ0 ρ1 : Rho} {H0 H1 : Hp} {w0 w1 : World} (h : Ext ρ0 H0 w0 ρ1 H1 w1) {fi : FI} {r : CR} {e : Exit} {a : Act} (hp : CPost P ρ1 H1 w1 fi r e a w) : CPost P ρ0 H0 w0 fi r e a w := by
  cases r with
  | norm s => obtain ⟨q, ρ', h1, h2⟩ := hp; exact ⟨q, ρ', h1, h.trans h2⟩
  | exit id s => obtain ⟨q, ρ', h1, h2⟩ := hp; exact ⟨q, ρ', h1, h.trans h2⟩
  | ret s => obtain ⟨q, ρ', h1, h2⟩ := hp; exact ⟨q, ρ', h1, h.trans h2⟩
  | pnc v s => obtain ⟨u, q, ρ', hv, h1, h2⟩ := hp; exact ⟨u, q, ρ', hv, h1, h.trans h2⟩
theorem next_ok' {ih : EvF} (hih : CodeOK P ih) {fi : FI} {b : Code} {r1 r : CR} (h : seqNext fi ih b r1 = some r) {ρ0 : Rho} {H0 : Hp} {w0 : World} {e : Exit} {a : Act} (hp : CPost P ρ0 H0 w0 fi r1 e a w) :
    Exit.then (wpV P b (CPost P ρ0 H0 w0 fi r)) (CPost P ρ0 H0 w0 fi r) e a w := by
  cases r1 with
  | norm s =>
    obtain ⟨rfl, ρ', h1, h2⟩ := hp
    have := hih fi b s r h ρ' a w h1
    cases b <;> first
      | exact wp_mono this fun e a w hq => CPost.trans h2 hq
      | exact fun bb k cs => let ⟨e, a', w', hq, harr⟩ := this bb k cs; ⟨e, a', w', CPost.trans h2 hq, harr⟩
  | exit id s => obtain ⟨rfl, q⟩ := hp; injection h with h; subst h; exact ⟨rfl, q⟩
  | ret s => obtain ⟨rfl, q⟩ := hp; injection h with h; subst h; exact ⟨rfl, q⟩
  | pnc v s => obtain ⟨u, rfl, q⟩ := hp; injection h with h; subst h; exact ⟨u, rfl, q⟩
theorem seq_ok {ih : EvF} (hih : CodeOK P ih) {fi : FI} {x y : Code} {s : St} {r : CR} (h : seqA fi ih x y s = some r) {a : Act} (hs : SR P ρ fi [] s a w) : (Code.seq x y).wp P (CPost P ρ s.H w fi r) a w := by
  obtain ⟨r1, h1, h2⟩ := ob_some h
  refine wp_seq (wp_mono (hih fi x s r1 h1 ρ a w hs).wp fun e a w hp => ?_)
  have := next_ok' hih h2 hp
  cases e <;> first | exact wpV.wp this | exact this
theorem block_ok {ih : EvF} (hih : CodeOK P ih) {fi : FI} {id : Nat} {x : Code} {s : St} {r : CR} (h : blockA fi ih id x s = some r) {a : Act} (hs : SR P ρ fi [] s a w) : (Code.block id x).wp P (CPost P ρ s.H w fi r) a w := by
  obtain ⟨r1, h1, h2⟩ := ob_some h
  refine wp_block (wp_mono (hih fi x s r1 h1 ρ a w hs).wp fun e a w hp => ?_)
  cases r1 with
  | norm s => obtain ⟨rfl, q⟩ := hp; injection h2 with h2; subst h2; exact ⟨rfl, q⟩
  | exit id' s =>
    obtain ⟨rfl, q⟩ := hp
    have h2 : iteB (Nat.beq id' id) (some (CR.norm s)) (some (CR.exit id' s)) = some r := h2
    show if id' = id then _ else _
    cases hb : Nat.beq id' id with
    | true => rw [hb] at h2; injection h2 with h2; subst h2; rw [if_pos (beq_eq hb)]; exact ⟨rfl, q⟩
    | false => rw [hb] at h2; injection h2 with h2; subst h2; rw [if_neg (beq_ne hb)]; exact ⟨rfl, q⟩
  | ret s => obtain ⟨rfl, q⟩ := hp; injection h2 with h2; subst h2; exact ⟨rfl, q⟩
  | pnc v s => obtain ⟨u, rfl, q⟩ := hp; injection h2 with h2; subst h2; exact ⟨u, rfl, q⟩
theorem cond_ok {ih : EvF} (hih : CodeOK P ih) {fi : FI} {x : Operand} {c d : Code} {s : St} {r : CR} (h : condA fi ih x c d s = some r) {a : Act} (hs : SR P ρ fi [] s a w) : (Code.cond x c d).wp P (CPost P ρ s.H w fi r) a w := by
  obtain ⟨v, hv, h1⟩ := ob_some h
  obtain ⟨t, ht, h2⟩ := ob_some h1
  have hb := asBool_rel ht (hs.env.eval x v hv)
  refine wp_cond hb ?_
  cases t with
  | true => exact (hih fi c s r h2 ρ a w hs).wp
  | false => exact (hih fi d s r h2 ρ a w hs).wp
/-- What is asked of the regions whose order is drawn. -/
def DrawOK (P : Program) (call : CallF) : Prop :=
  ∀ fi id (ops : Array Oper) s r, regionA P fi call ops.toList true s = some r → ∀ (ρ : Rho) (a : Act) (w : World), SR P ρ fi [] s a w → (Code.region id ops true).wp P (CPost P ρ s.H w fi r) a w
/-- What is asked of the idle rule. -/
def IdleOK (P : Program) (hint : Nat → Bool) (call : CallF) : Prop :=
  ∀ fi c s r, idle P fi hint call c s = some r → ∀ (ρ : Rho) (a : Act) (w : World), SR P ρ fi [] s a w → LoopWp P c (CPost P ρ s.H w fi r) a w
theorem step_ok {hint : Nat → Bool} {ih : EvF} {call : CallF} (hih : CodeOK P ih) (hc : CallOK P call) (hd : DrawOK P call) (hi : IdleOK P hint call) : CodeOK P (codeStep P hint ih call) := by
  intro fi c s r h ρ a w hs
  cases c with
  | skip => injection h with h; subst h; exact wp_skip ⟨rfl, ρ, hs, Ext.refl _ _ _⟩
  | label l => injection h with h; subst h; exact wp_label ⟨rfl, ρ, hs, Ext.refl _ _ _⟩
  | exit id => injection h with h; subst h; exact wp_exit ⟨rfl, ρ, hs, Ext.refl _ _ _⟩
  | ret => injection h with h; subst h; exact wp_ret ⟨rfl, ρ, hs, Ext.refl _ _ _⟩
  | seq x y => exact seq_ok hih h hs
  | block id x => exact block_ok hih h hs
  | cond x c d => exact cond_ok hih h hs
  | region id ops d =>
    cases d with
    | true => exact hd fi id ops s r h ρ a w hs
    | false =>
      have := ops_ok (ops := ops) hc ops.toList 0 rfl ⟨[], s⟩ r ρ a w h hs (Ext.refl _ _ _)
      refine wp_region ?_
      rw [List.range_eq_range']
      simpa using this
  | loop c =>
    rcases orElseO_some (x := idle P fi hint call c s) h with h1 | ⟨_, h1⟩
    · exact hi fi c s r h1 ρ a w hs
    · obtain ⟨r1, h2, h3⟩ := ob_some h1
      refine LoopWp.unroll (wp_mono (hih fi c s r1 h2 ρ a w hs).wp fun e a w hp => ?_)
      exact next_ok' hih h3 hp
  | scope c =>
    refine wp_scope_straight (wp_mono (hih fi c s r h ρ a w hs).wp fun e a w hp => ?_)
    cases e <;> first | exact hp | skip
    cases r with
    | norm s => cases hp.1
    | exit id s => cases hp.1
    | ret s => cases hp.1
    | pnc v s => obtain ⟨u, q, _⟩ := hp; cases q
  | _ => cases h
end Go.Vex
namespace Go.Vex
variable {P : Program} {ρ : Rho} {H : Hp} {w : World}
/-! ### A function is entered -/
theorem funcOf_inv {f : FuncId} {q : Func × Code} (h : funcOf P f = some q) : P.funcs[f]? = some q.1 ∧ q.1.body = some q.2 := by
  obtain ⟨fn, hf, h1⟩ := ob_some h
  obtain ⟨c, hc, h2⟩ := ob_some h1
  injection h2 with h2; subst h2
  exact ⟨hf, hc⟩
theorem mkTm_ok {n mask : Nat} {args : List AV} {tm : Tm} (h : mkTm n mask args = some tm) {us : List Value} (ha : All2 (RV ρ) args us) : EnvS ρ ⟨n, mask⟩ [] tm (us.toArray ++ Array.replicate (n - us.toArray.size) undef) := by
  obtain ⟨hb, h1⟩ := iteB_some h
  have hb := ble_le hb
  rw [lenL_zero, ha.length] at hb
  refine ⟨by simp; omega, fun t v ht => ?_⟩
  cases hg : isGlob mask t with
  | false => rw [look_loc hg] at ht; cases ht
  | true =>
    rw [look_glob hg, storeT_get args .leaf tm 0 h1 t] at ht
    by_cases hlt : t < args.length
    · rw [if_pos (by omega)] at ht
      obtain ⟨u, hu, hv⟩ := ha.get t v (by simpa using ht)
      have : (us.toArray ++ Array.replicate (n - us.toArray.size) undef).getD t undef = u := by
        have hlu : t < us.length := by rw [← ha.length]; exact hlt
        rw [Array.getD_eq_getD_getElem?, Array.getElem?_append_left (by simpa using hlu)]
        simp [hu]
      rw [this]; exact hv
    · rw [if_neg (by omega)] at ht
      have : T.get AV.any T.leaf t = some AV.any := rfl
      rw [this] at ht
      injection ht with ht; subst ht
      exact .any _
/-! ### Results -/
theorem resOne_ok (h : Rep ρ H w) {fi : FI} {tm : Tm} {tmps : Array Value} (he : EnvS ρ fi [] tm tmps) {r : ResultVar} {v : AV} (hr : resOne P fi tm H r = some v) :
    ∃ u, (match r with | .tmp t => pure (tmps.getD t undef) | .cell a t => do loadVar t (← asAddr (tmps.getD a undef)) : Sem Value).run P w = .ok u w ∧ RV ρ v u := by
  cases r with
  | tmp t => exact ⟨_, rfl, he.rel t v hr⟩
  | cell a t =>
    obtain ⟨ty, hty, h1⟩ := ob_some (x := tyA P t) hr
    obtain ⟨p, hp, h2⟩ := ob_some h1
    obtain ⟨q, hq, h3⟩ := ob_some h2
    obtain ⟨_, r', base, en, hr', hu⟩ := asPtr_rel hq (he.rel a p hp)
    obtain ⟨u, h4, h5⟩ := loadAs_ok (P := P) h hty h3 hr'
    refine ⟨u, ?_, h5⟩
    simp only [hu, Sem.run_bind]
    exact h4
theorem results_ok (h : Rep ρ H w) {fi : FI} {fn : Func} {tm : Tm} {tmps : Array Value} (he : EnvS ρ fi [] tm tmps) {vs : List AV} (hr : resA P fi tm H fn.results.toList = some vs) :
    ∃ u, (results fn tmps).run P w = .ok u w ∧ RV ρ (resV vs) u := by
  have key : ∀ (l : List ResultVar) (vs : List AV), mapO (resOne P fi tm H) l = some vs → ∃ us : List Value, All2 (RV ρ) vs us ∧
      (l.mapM fun r => (match r with | .tmp t => pure (tmps.getD t undef) | .cell a t => do loadVar t (← asAddr (tmps.getD a undef)) : Sem Value)).run P w = .ok us w := by
    intro l
    induction l with
    | nil => intro vs hm; have hm : some [] = some vs := hm; injection hm with hm; subst hm; exact ⟨[], .nil, rfl⟩
    | cons r l ih =>
      intro vs hm
      obtain ⟨v, hv, h1⟩ := ob_some (x := resOne P fi tm H r) (f := fun y => ob (mapO (resOne P fi tm H) l) fun r => some (y :: r)) hm
      obtain ⟨vs', hvs, h2⟩ := ob_some h1
      injection h2 with h2; subst h2
      obtain ⟨u, hu, hru⟩ := resOne_ok h he hv
      obtain ⟨us, hus, hrun⟩ := ih vs' hvs
      refine ⟨u :: us, .cons hru hus, ?_⟩
      rw [List.mapM_cons]
      simp only [Sem.run_bind]
      rw [hu]
      simp only [Result.andThen_ok, hrun]
      rfl
  obtain ⟨us, hus, hrun⟩ := key _ _ hr
  have hm : (fn.results.mapM fun r => (match r with | .tmp t => pure (tmps.getD t undef) | .cell a t => do loadVar t (← asAddr (tmps.getD a undef)) : Sem Value)).run P w = .ok us.toArray w := by
    rw [Array.mapM_eq_mapM_toList, Sem.run_map, hrun]
    rfl
  refine ⟨if h : us.toArray.size = 1 then us.toArray[0] else .tuple us.toArray, ?_, ?_⟩
  · unfold results
    rw [Sem.run_bind]
    have : ∀ (G : ResultVar → Sem Value), G = (fun r => (match r with | .tmp t => pure (tmps.getD t undef) | .cell a t => do loadVar t (← asAddr (tmps.getD a undef)) : Sem Value)) → (fn.results.mapM G).run P w = .ok us.toArray w := fun G e => by rw [e]; exact hm
    rw [this _ (by funext r; cases r <;> rfl)]
    rfl
  · cases hus with
    | nil => simp only [List.size_toArray, List.length_nil]; exact .tup (vs := []) .nil
    | cons hv htl =>
      cases htl with
      | nil => simpa [resV] using hv
      | cons hv2 htl2 =>
        have : ∀ (x y : Value) (k : List Value), ¬ ((x :: y :: k).toArray.size = 1) := by simp
        rw [dif_neg (this _ _ _)]
        exact .tup (.cons hv (.cons hv2 htl2))
/-! ### Deferred calls -/
def MdR (ρ : Rho) : Md → FrameMode → Prop
  | .ret, u => u = .returning
  | .pan v b, u => ∃ x, u = .panicking [{ v := x, recovered := b }] ∧ RV ρ v x
theorem MdR.mono {ρ' : Rho} (hs : ρ.sub ρ') {md : Md} {u : FrameMode} (h : MdR ρ md u) : MdR ρ' md u := by
  cases md with
  | ret => exact h
  | pan v b => obtain ⟨x, e, hv⟩ := h; exact ⟨x, e, hv.mono hs⟩
theorem settle_ok {md : Md} {u : FrameMode} (h : MdR ρ md u) : MdR ρ (settleA md) (settle u) := by
  cases md with
  | ret => cases h; rfl
  | pan v b =>
    obtain ⟨x, rfl, hv⟩ := h
    cases b with
    | true => rfl
    | false => exact ⟨x, rfl, hv⟩
theorem splitD_inv {c : Code} {q : List Oper × Code} (h : splitD c = some q) : ∃ id ops, c = .seq (.region id ops false) q.2 ∧ q.1 = ops.toList := by
  unfold splitD at h
  split at h
  · injection h with h; subst h; exact ⟨_, _, rfl, rfl⟩
  · cases h
theorem putLT_ok {fi : FI} {r r' : Loc × Tm} {dst : Option Tmp} {v : AV} (h : putLT fi r dst v = some r') {a : Act} {u : Value} (he : EnvS ρ fi r.1 r.2 a.tmps) (hv : RV ρ v u) : EnvS ρ fi r'.1 r'.2 (a.put dst u).tmps := by
  unfold putLT at h
  cases dst with
  | none => injection h with h; subst h; exact he
  | some d => exact he.put h hv
/-- The head of a deferred function, which may recover. -/
theorem opsD_ok {fi : FI} {ops : Array Oper} {c₀ : Frame} {rest : List Frame} {Q : Exit → Act → List Frame → World → Prop} : ∀ (l : List Oper) (i : Nat), ops.toList.drop i = l → ∀ (r : Loc × Tm) (md : Md) (out : (Loc × Tm) × Md) (a : Act) (u : FrameMode),
    opsD fi l r md = some out → EnvS ρ fi r.1 r.2 a.tmps → a.defers = [] → MdR ρ md u →
    (∀ a' u', EnvS ρ fi out.1.1 out.1.2 a'.tmps → a'.defers = [] → MdR ρ out.2 u' → Q .normal a' ({ c₀ with mode := u' } :: rest) w) →
    wpOpsS P ops Q (List.range' i l.length) a ({ c₀ with mode := u } :: rest) w := by
  intro l
  induction l with
  | nil =>
    intro i hi r md out a u h he hd hm hq
    injection h with h; subst h
    exact hq a u he hd hm
  | cons o l ih =>
    intro i hi r md out a u h he hd hm hq
    have ho : ops[i]? = some o := by
      have : (ops.toList.drop i)[0]? = some o := by rw [hi]; rfl
      simpa using this
    have hl : ops.toList.drop (i + 1) = l := by
      have : (ops.toList.drop i).drop 1 = l := by rw [hi]; rfl
      simpa [List.drop_drop] using this
    obtain ⟨q, hq1, h1⟩ := ob_some (x := opDs fi o r md) (f := fun q => opsD fi l q.1 q.2) h
    rw [List.length_cons, List.range'_succ]
    unfold opDs at hq1
    split at hq1
    · cases hq1
    · rename_i hg
      have hw : Region.wanted o (yielded ops a.tmps) = true := by unfold Region.wanted; rw [hg]
      unfold wpOpsS
      simp only [ho, hw, if_true]
      have step : ∀ v x, (execOp a.eval o).run P w = .ok (.value x) w → RV ρ v x → (ob (putLT fi r o.dst v) fun r => some (r, md)) = some q →
          (match (execOp a.eval o).run P w with
            | .ok .recover w' => match recoverD ({ c₀ with mode := u } :: rest) with | some (v, cs') => wpOpsS P ops Q (List.range' (i + 1) l.length) (a.put o.dst v) cs' w' | none => wpOpsS P ops Q (List.range' (i + 1) l.length) (a.put o.dst .nilIface) ({ c₀ with mode := u } :: rest) w'
            | r => o.upon P a (fun a' w' => wpOpsS P ops Q (List.range' (i + 1) l.length) a' ({ c₀ with mode := u } :: rest) w') (fun e a' w' => Q e a' ({ c₀ with mode := u } :: rest) w') r) := by
        intro v x hrun hv hp
        obtain ⟨r', hr', h2⟩ := ob_some (x := putLT fi r o.dst v) hp
        injection h2 with h2; subst h2
        rw [hrun]
        exact ih (i + 1) hl r' md out (a.put o.dst x) u h1 (putLT_ok hr' he hv) (by cases o.dst <;> exact hd) hm hq
      split at hq1
      · rename_i at_ hop
        have hrun : (execOp a.eval o).run P w = .ok .recover w := by
          unfold execOp; rw [hop]; rfl
        rw [hrun]
        obtain ⟨r', hr', h2⟩ := ob_some (x := putLT fi r o.dst (recMd md).1) hq1
        injection h2 with h2; subst h2
        have hdd : ∀ v, (a.put o.dst v).defers = [] := fun v => by cases o.dst <;> exact hd
        cases md with
        | ret =>
          have hm' : u = .returning := hm
          subst hm'
          exact ih (i + 1) hl r' .ret out (a.put o.dst .nilIface) .returning h1 (putLT_ok hr' he .nili) (hdd _) rfl hq
        | pan v b =>
          obtain ⟨x, rfl, hv⟩ := hm
          cases b with
          | true => exact ih (i + 1) hl r' (.pan v true) out (a.put o.dst .nilIface) _ h1 (putLT_ok hr' he .nili) (hdd _) ⟨x, rfl, hv⟩ hq
          | false => exact ih (i + 1) hl r' (.pan v true) out (a.put o.dst x) (.panicking [{ v := x, recovered := true }]) h1 (putLT_ok hr' he hv) (hdd _) ⟨x, rfl, hv⟩ hq
      · rename_i x hop
        obtain ⟨v, hv, h2⟩ := ob_some (x := envOf fi.mask r.1 r.2 x) hq1
        exact step v (a.eval x) (by unfold execOp; rw [hop]; rfl) (he.eval x v hv) h2
      · rename_i x hop
        obtain ⟨v, hv, h2⟩ := ob_some (x := envOf fi.mask r.1 r.2 x) hq1
        exact step v (a.eval x) (by unfold execOp; rw [hop]; rfl) (he.eval x v hv) h2
      · cases hq1
theorem unit_results {fn : Func} (h : fn.results.toList = []) (tmps : Array Value) (w : World) : (results fn tmps).run P w = .ok (.tuple #[]) w := by
  have : fn.results = #[] := by apply Array.ext'; simpa using h
  unfold results
  rw [this]
  simp [Sem.run_pure]
theorem DfR.nil_inv {df : List (FuncId × List AV)} (hl : df = []) {ds : List Deferred} (h : DfR P ρ df ds) : ds = [] := by subst hl; cases h; rfl
theorem len0 {α : Type} {l : List α} (h : Nat.beq (lenL l 0) 0 = true) : l = [] := by
  have := beq_eq h
  rw [lenL_zero] at this
  exact List.length_eq_zero_iff.1 this
theorem andB_true {a b : Bool} (h : andB a b = true) : a = true ∧ b = true := by
  cases a <;> cases b <;> first | exact ⟨rfl, rfl⟩ | cases h
theorem callD_ok {msk : FuncId → Nat} {ev : EvF} (hev : CodeOK P ev) {f : FuncId} {args : List AV} {md : Md} {out : Md × Hp} (h : callD P msk ev f args md H = some out) {us : List Value} (ha : All2 (RV ρ) args us) (hr : Rep ρ H w) {u : FrameMode} (hm : MdR ρ md u) :
    CallsD P f us.toArray u w fun e u' w' => ∃ v ρ', e = .returned v ∧ MdR ρ' out.1 (settle u') ∧ Rep ρ' out.2 w' ∧ Ext ρ H w ρ' out.2 w' := by
  obtain ⟨q, hq, h1⟩ := ob_some h
  obtain ⟨c, hc, h2⟩ := ob_some h1
  obtain ⟨tm, htm, h3⟩ := ob_some h2
  obtain ⟨r, hr1, h4⟩ := ob_some h3
  obtain ⟨cr, hcr, h5⟩ := ob_some h4
  clear h h1 h2 h3 h4
  obtain ⟨hf, hb⟩ := funcOf_inv hq
  obtain ⟨id, ops, hcode, hops⟩ := splitD_inv hc
  refine callsD_of_wpS hf hb fun c₀ cs hu => ?_
  rw [hcode]
  refine wpS_seq (wpS_region ?_)
  have hc0 : ({ c₀ with mode := u } : Frame) = c₀ := by subst hu; rfl
  rw [hops] at hr1
  have := opsD_ok (P := P) (w := w) (fi := ⟨q.1.ntmps, msk f⟩) (ops := ops) (c₀ := c₀) (rest := cs) (Q := Exit.thenS (c.2.wpS P (bodyPostS P q.1 c₀ cs fun e u' w' => ∃ v ρ', e = .returned v ∧ MdR ρ' out.1 (settle u') ∧ Rep ρ' out.2 w' ∧ Ext ρ H w ρ' out.2 w')) (bodyPostS P q.1 c₀ cs fun e u' w' => ∃ v ρ', e = .returned v ∧ MdR ρ' out.1 (settle u') ∧ Rep ρ' out.2 w' ∧ Ext ρ H w ρ' out.2 w'))
    ops.toList 0 rfl ([], tm) md r { tmps := us.toArray ++ Array.replicate (q.1.ntmps - us.toArray.size) undef, defers := [] } u hr1 (mkTm_ok htm ha) rfl hm (fun a' u' he' hd' hm' => by
      refine wpS_of_wp (wp_mono (hev _ _ _ _ hcr ρ a' w ⟨he'.nil, by rw [hd']; exact .nil, hr⟩).wp fun e a2 w2 hp => ?_)
      cases cr with
      | norm s =>
        obtain ⟨rfl, ρ', hs, hext⟩ := hp
        obtain ⟨hb1, h6⟩ := iteB_some h5
        injection h6 with h6; subst h6
        obtain ⟨hl1, hl2⟩ := andB_true hb1
        refine ⟨hs.df.nil_inv (len0 hl1), u', rfl, _, unit_results (len0 hl2) _ _, _, ρ', rfl, ?_, hs.rep, hext⟩
        exact settle_ok (hm'.mono hext.sub)
      | ret s =>
        obtain ⟨rfl, ρ', hs, hext⟩ := hp
        obtain ⟨hb1, h6⟩ := iteB_some h5
        injection h6 with h6; subst h6
        obtain ⟨hl1, hl2⟩ := andB_true hb1
        refine ⟨hs.df.nil_inv (len0 hl1), u', rfl, _, unit_results (len0 hl2) _ _, _, ρ', rfl, ?_, hs.rep, hext⟩
        exact settle_ok (hm'.mono hext.sub)
      | exit id s => cases h5
      | pnc v s => cases h5)
  rw [hc0] at this
  rw [List.range_eq_range']
  simpa using this
theorem leaves_ok {msk : FuncId → Nat} {ev : EvF} (hev : CodeOK P ev) {fi : FI} {fn : Func} {tm : Tm} {tmps : Array Value} {k : KR} {ρ0 : Rho} {H0 : Hp} {w0 : World} : ∀ (l : List (FuncId × List AV)) (ds : List Deferred) (md : Md) (H : Hp) (ρ : Rho) (w : World) (u : FrameMode),
    leaveA P msk ev fi fn tm l md H = some k → DfR P ρ l ds → MdR ρ md u → EnvS ρ fi [] tm tmps → Rep ρ H w → Ext ρ0 H0 w0 ρ H w → Leaves P fn tmps (KPost ρ0 H0 w0 k) ds u w := by
  intro l
  induction l with
  | nil =>
    intro ds md H ρ w u h hd hm he hr hext
    cases hd
    have h : leaveEnd P fi fn tm md H = some k := h
    cases md with
    | ret =>
      have hm : u = .returning := hm
      subst hm
      obtain ⟨vs, hvs, h1⟩ := ob_some (x := resA P fi tm H fn.results.toList) h
      injection h1 with h1; subst h1
      obtain ⟨x, hx, hv⟩ := results_ok hr he hvs
      exact ⟨x, hx, ρ, x, rfl, hv, hr, hext⟩
    | pan v b =>
      obtain ⟨x, rfl, hv⟩ := hm
      cases b with
      | true => cases h
      | false =>
        have h : some (KR.pnc v H) = some k := h
        injection h with h; subst h
        exact ⟨ρ, x, rfl, hv, hr, hext⟩
  | cons p l ih =>
    intro ds md H ρ w u h hd hm he hr hext
    cases hd with
    | cons hp htl =>
      rename_i d ds'
      obtain ⟨hen, cap, vs, rfl, hall⟩ := hp
      obtain ⟨out, hout, h1⟩ := ob_some (x := callD P msk ev p.1 p.2 md H) h
      have hne : u ≠ .run := by
        cases md with
        | ret => have hm : u = .returning := hm; subst hm; simp
        | pan v b => obtain ⟨x, rfl, _⟩ := hm; simp
      have hcd := callD_ok hev hout hall hr hm
      have e0 : vs ++ cap = (vs.toList ++ cap.toList).toArray := by apply Array.ext'; simp
      refine leaves_cons hne (f := p.1) (args := (vs.toList ++ cap.toList).toArray) ?_ (hcd.mono fun e u' w' hp => ?_)
      · unfold invoke
        simp only [e0]
        exact enter_run hen _
      · obtain ⟨v, ρ', rfl, hm', hr', hext'⟩ := hp
        exact ih ds' out.1 out.2 ρ' w' (settle u') h1 (DfR.mono hext'.sub htl) hm' (he.mono hext'.sub) hr' (hext.trans hext')
theorem callFn_ok {msk : FuncId → Nat} {ev : EvF} (hev : CodeOK P ev) : CallOK P (callFn P msk ev) := by
  intro f args H k h _ ρ w us ha hr
  obtain ⟨q, hq, h1⟩ := ob_some h
  obtain ⟨tm, htm, h2⟩ := ob_some h1
  obtain ⟨cr, hcr, h3⟩ := ob_some h2
  clear h h1 h2
  obtain ⟨hf, hb⟩ := funcOf_inv hq
  have hs0 : SR P ρ ⟨q.1.ntmps, msk f⟩ [] ⟨tm, [], H⟩ { tmps := us.toArray ++ Array.replicate (q.1.ntmps - us.toArray.size) undef, defers := [] } w := ⟨mkTm_ok htm ha, All2.nil, hr⟩
  refine calls_of_wp_defers hf hb (wp_mono (hev _ _ _ _ hcr ρ _ w hs0).wp fun e a w' hp => ?_)
  cases cr with
  | norm s =>
    obtain ⟨rfl, ρ', hs, hext⟩ := hp
    exact leaves_ok hev _ _ _ _ ρ' _ _ h3 hs.df rfl hs.env hs.rep hext
  | ret s =>
    obtain ⟨rfl, ρ', hs, hext⟩ := hp
    exact leaves_ok hev _ _ _ _ ρ' _ _ h3 hs.df rfl hs.env hs.rep hext
  | pnc v s =>
    obtain ⟨u, rfl, ρ', hv, hs, hext⟩ := hp
    exact leaves_ok hev _ _ _ _ ρ' _ _ h3 hs.df ⟨u, rfl, hv⟩ hs.env hs.rep hext
  | exit id s => cases h3
/-- What is asked of the functions that are given as known. -/
def OrcOK (P : Program) (orc : Orc) : Prop := ∀ f g, orc f = some g → ∀ args H k, g args H = some k → ∀ (ρ : Rho) (w : World) (us : List Value), All2 (RV ρ) args us → Rep ρ H w → Calls P f us.toArray w (KPost ρ H w k)
theorem callStep_ok {msk : FuncId → Nat} {orc : Orc} (ho : OrcOK P orc) {ev : EvF} (hev : CodeOK P ev) : CallOK P (callStep P msk orc ev) := by
  intro f args H k h hen ρ w us ha hr
  unfold callStep at h
  cases hg : orc f with
  | none => rw [hg] at h; exact callFn_ok hev f args H k h hen ρ w us ha hr
  | some g =>
    rw [hg] at h
    rcases orElseO_some (x := g args H) h with h | ⟨_, h⟩
    · exact ho f g hg args H k h ρ w us ha hr
    · exact callFn_ok hev f args H k h hen ρ w us ha hr
theorem ev_ok {hint : Nat → Bool} {msk : FuncId → Nat} {orc : Orc} (ho : OrcOK P orc) (hd : ∀ call, CallOK P call → DrawOK P call) (hi : ∀ call, CallOK P call → IdleOK P hint call) : ∀ n, CodeOK P (ev P hint msk orc n) := by
  intro n
  induction n with
  | zero => intro fi c s r h; cases h
  | succ n ih =>
    have hc := callStep_ok (msk := msk) ho ih
    exact step_ok ih hc (hd _ hc) (hi _ hc)
end Go.Vex
namespace Go.Vex
variable {P : Program} {ρ : Rho} {H : Hp} {w : World} {e : Env} {σ : Operand → Value}
/-! ### An allocation's result is the same in every world -/
def AllocS (P : Program) (ρ : Rho) (H : Hp) (s : Sem Next) (r : OR) : Prop :=
  ∃ v H' o ob en, ∃ g : Nat → Value, r = .val v H' ∧ H.alloc o = some H' ∧ Lv o ∧ (∀ w : World, s.run P w = .ok (.value (g w.heap.size)) (World.new w ob)) ∧
    (∀ r, RO (ρ.put H.next (r, 0, en)) o 0 en ob) ∧ ∀ r, RV (ρ.put H.next (r, 0, en)) v (g r)
theorem row_ro (hn : ρ H.next = none) {o : AO} {cs : List AV} (ho : Content o cs) {us : List Value} (hv : All2 (RV ρ) cs us) (hs : ∀ u ∈ us, Scalar u) (el : TypeId) (r : Nat) :
    Lv o ∧ RO (ρ.put H.next (r, 0, us.length)) o 0 us.length (.cells us.toArray el) := by
  have := content_ro (ρ := ρ.put H.next (r, 0, us.length)) ho (RVs.mono (Rho.sub_put hn) hv) hs [] el
  simpa using this
theorem row_run (el : TypeId) (us : Array Value) (w : World) : (newRow el us).run P w = .ok ⟨w.heap.size, 0, none⟩ (World.new w (.cells us el)) := rfl
theorem put_self (b : Nat) (x : Nat × Nat × Nat) : (ρ.put b x) b = some x := by simp [Rho.put]
theorem alloc_s (hn : ρ H.next = none) {el : TypeId} {r : OR} (hh : opAlloc P H el = some r) : AllocS P ρ H (do pure (.value (← Instr.alloc el true (.tuple #[])))) r := by
  obtain ⟨o, ho, h1⟩ := ob_some hh
  obtain ⟨H', ha, rfl⟩ := allocV_inv h1
  obtain ⟨cs, hcs, ho⟩ := ob_some ho
  obtain ⟨z, us, hz, hc, hall, hsc⟩ := zeroCells_inv hcs
  have hro := fun r => row_ro (H := H) hn (ofList_content ho) (hall ρ) hsc el r
  refine ⟨_, H', o, .cells us.toArray el, us.length, fun r => .pointer (some ⟨r, 0 + 0, none⟩), rfl, ha, (hro 0).1, fun w => ?_, fun r => (hro r).2, fun r => .ptr (put_self _ _)⟩
  unfold Instr.alloc
  simp only [Sem.run_bind, hz w, Result.andThen_ok, newVar, hc]
  rw [row_run]; rfl
theorem box_s (hn : ρ H.next = none) (he : EnvR ρ e σ) {el : TypeId} {x : Operand} {r : OR} (hh : opBox e H x = some r) : AllocS P ρ H (do pure (.value (← Instr.box el (σ x)))) r := by
  obtain ⟨v, hv, h1⟩ := ob_some hh
  obtain ⟨cs, hcs, h2⟩ := ob_some h1
  obtain ⟨o, ho, h3⟩ := ob_some h2
  obtain ⟨H', ha, rfl⟩ := allocV_inv h3
  obtain ⟨us, hc, hall, hsc⟩ := cells_rel hcs (he _ _ hv)
  have hro := fun r => row_ro (H := H) hn (ofList_content ho) hall hsc el r
  refine ⟨_, H', o, .cells us.toArray el, us.length, fun r => .pointer (some ⟨r, 0 + 0, none⟩), rfl, ha, (hro 0).1, fun w => ?_, fun r => (hro r).2, fun r => .ptr (put_self _ _)⟩
  unfold Instr.box
  simp only [newVar, hc, Sem.run_bind, row_run]; rfl
theorem makeMap_s {t : TypeId} {x : Option Operand} {r : OR} (hh : opMakeMap H x = some r) : AllocS P ρ H (do pure (.value (← Instr.makeMap t (x.map σ)))) r := by
  cases x with
  | some y => cases hh
  | none =>
    obtain ⟨H', ha, rfl⟩ := allocV_inv (H := H) hh
    refine ⟨_, H', .mapo [] 0, .map #[] 0, 0, fun r => .map (some r), rfl, ha, by simp, fun w => ?_, fun r => .mapo .nil, fun r => .map (x := (0, 0)) (put_self _ _)⟩
    unfold Instr.makeMap
    simp [World.new]
theorem buildSlice_s (hn : ρ H.next = none) (he : EnvR ρ e σ) {t : TypeId} {len : Nat} {ps : Array (Nat × Operand)} {r : OR} (hh : opBuildSlice P e H t len ps.toList = some r) :
    AllocS P ρ H (do pure (.value (← Instr.buildSlice t len (ps.map fun (x : Nat × Operand) => (x.1, σ x.2))))) r := by
  obtain ⟨el, hel, h1⟩ := ob_some hh
  obtain ⟨s, hs, h2⟩ := ob_some h1
  obtain ⟨z, hz, h2'⟩ := ob_some h2
  obtain ⟨hzl, h3⟩ := iteB_some h2'
  obtain ⟨row, hrow, h4⟩ := ob_some h3
  obtain ⟨cs, hcs, h5⟩ := ob_some h4
  obtain ⟨o, ho, h6⟩ := ob_some h5
  obtain ⟨hb, h7⟩ := iteB_some h6
  obtain ⟨H', ha, rfl⟩ := allocV_inv h7
  have hd := elemOf_inv hel
  have hb : len * s ≤ 65536 := ble_le hb
  obtain ⟨zv, us, hzv, hzc, hall, hsc⟩ := zeroCells_inv hz
  have hzl := beq_eq hzl
  rw [lenL_zero, (hall ρ).length] at hzl
  subst hzl
  have hrow := rowOf_some _ _ _ hrow
  subst hrow
  obtain ⟨us', hf, h8, h9⟩ := fill_ok he (fun i => some (i * us.length, us.length)) (arrPlace us.length) (fun i q hq => hq) ps.toList _ cs _ hcs (replicate_rel (hall ρ) len) (replicate_scalar hsc len)
  have hro := fun r => row_ro (H := H) hn (ofList_content ho) h8 h9 el r
  refine ⟨_, H', o, .cells us'.toArray el, us'.length, fun r => .slice (some ⟨r, 0 + 0, none⟩) len len, rfl, ha, (hro 0).1, fun w => ?_, fun r => (hro r).2, fun r => .sfix (put_self _ _) (Nat.le_refl _)⟩
  unfold Instr.buildSlice
  have hlt : ¬ (len * us.length > 2 ^ 24) := by simp; omega
  simp only [Sem.run_bind, run_underlying hd w, run_sizeOf' hs w, Result.andThen_ok, hlt, if_false]
  by_cases h0 : len * us.length = 0
  · have e1 : ((List.replicate len us).flatten) = [] := by
      have : ((List.replicate len us).flatten).length = 0 := by simpa using h0
      exact List.length_eq_zero_iff.1 this
    rw [e1] at hf
    have e2 : ((Array.range (len * us.length)).map fun i => (#[] : Array Value)[i % (#[] : Array Value).size]!) = #[] := by rw [h0]; simp
    simp only [h0, if_true, Sem.run_pure, Result.andThen_ok, Sem.run_bind]
    rw [h0] at e2
    rw [parts_list, e2, hf]
    simp only [Sem.run_bind, row_run, Result.andThen_ok, Sem.run_pure]
  · have hne : us ≠ [] := by intro e; subst e; simp at h0
    simp only [h0, if_false, Sem.run_bind, hzv w, Result.andThen_ok, Sem.run_pure]
    have := range_row len us (.inr hne)
    rw [hzc, this, parts_list, hf]
    simp only [Sem.run_bind, row_run, Result.andThen_ok, Sem.run_pure]
theorem makeSlice_s (hn : ρ H.next = none) (he : EnvR ρ e σ) {t : TypeId} {l c : Operand} {r : OR} (hh : opMakeSlice P e H t l c = some r) :
    AllocS P ρ H (do pure (.value (← Instr.makeSlice t (σ l) (σ c)))) r := by
  obtain ⟨el, hel, h1⟩ := ob_some hh
  obtain ⟨inf, hinf, h2⟩ := ob_some h1
  obtain ⟨z, hz, h3⟩ := ob_some h2
  obtain ⟨hzl, h4⟩ := iteB_some h3
  obtain ⟨vl, hvl, h5⟩ := ob_some h4
  obtain ⟨nl, hnl, h6⟩ := ob_some h5
  obtain ⟨vc, hvc, h7⟩ := ob_some h6
  obtain ⟨nc, hnc, h8⟩ := ob_some h7
  obtain ⟨b1, h9⟩ := iteB_some h8
  obtain ⟨b2, h10⟩ := iteB_some h9
  obtain ⟨b3, h11⟩ := iteB_some h10
  clear hh h1 h2 h3 h4 h5 h6 h7 h8 h9 h10
  have b1 := ble_le b1
  have b2 := ble_le b2
  have b3 := ble_le b3
  obtain ⟨kl, el1⟩ := asNat_rel hnl (he _ _ hvl)
  obtain ⟨kc, ec1⟩ := asNat_rel hnc (he _ _ hvc)
  have hd := elemOf_inv hel
  obtain ⟨zv, us, hzv, hzc, hall, hsc⟩ := zeroCells_inv hz
  have hzl := beq_eq hzl
  rw [lenL_zero, (hall ρ).length] at hzl
  have hsz : size P el = some us.length := by simp [size, hinf, hzl]
  -- the row that the model makes
  have hmodel : ∀ w w1 : World, (newRow el ((List.replicate nc us).flatten).toArray).run P w = .ok ⟨w.heap.size, 0, none⟩ w1 →
      (Instr.makeSlice t (σ l) (σ c)).run P w = .ok (.slice (some ⟨w.heap.size, 0, none⟩) nl nc) w1 := by
    intro w w1 hrun
    unfold Instr.makeSlice
    rw [el1, ec1]
    have e1 : IntKind.i64.wrap (nl : Int) = nl := IntWalk.i64_in _ ⟨by omega, by omega⟩
    have e2 : IntKind.i64.wrap (nc : Int) = nc := IntWalk.i64_in _ ⟨by omega, by omega⟩
    have hby : (inf.bytes : Int) * nc ≤ 65536 * 1048576 := by
      have : inf.bytes * nc ≤ 65536 * 1048576 := Nat.mul_le_mul b3 b2
      have h' : ((inf.bytes * nc : Nat) : Int) ≤ ((65536 * 1048576 : Nat) : Int) := by exact_mod_cast this
      simpa using h'
    simp only [Sem.run_bind, run_underlying hd w, Result.andThen_ok, asInt, asIntOf, Sem.run_pure, run_typeInfo' hinf w, e1, e2]
    have hcond : ((decide ((nc : Int) < 0) || decide ((inf.bytes : Int) * nc > 2 ^ 48)) || decide ((nl : Int) < 0) || decide ((nl : Int) > nc)) = false := by
      have a1 : ¬ ((nc : Int) < 0) := by omega
      have a2 : ¬ ((inf.bytes : Int) * nc > 2 ^ 48) := by
        have : (65536 * 1048576 : Int) ≤ 2 ^ 48 := by decide
        omega
      have a3 : ¬ ((nl : Int) < 0) := by omega
      have a4 : ¬ ((nl : Int) > nc) := by omega
      simp only [a1, a2, a3, a4, decide_false, Bool.or_self]
    rw [hcond]
    simp only [Bool.false_eq_true, if_false, Sem.run_bind, run_askRoom, Result.andThen_ok, run_sizeOf' hsz w, Int.toNat_natCast]
    by_cases h0 : nc * us.length = 0
    · have e3 : ((List.replicate nc us).flatten) = [] := by
        have : ((List.replicate nc us).flatten).length = 0 := by simpa using h0
        exact List.length_eq_zero_iff.1 this
      rw [e3] at hrun
      simp only [h0, if_true, Sem.run_pure, Result.andThen_ok, Sem.run_bind]
      have e4 : ((Array.range 0).map fun i => (#[] : Array Value)[i % (#[] : Array Value).size]!) = #[] := by simp
      rw [e4, hrun]; rfl
    · have hne : us ≠ [] := by intro e; subst e; simp at h0
      simp only [h0, if_false, Sem.run_bind, hzv w, Result.andThen_ok, Sem.run_pure]
      have := range_row nc us (.inr hne)
      rw [hzc, this, hrun]; rfl
  have hgen : ∀ row o H', rowOf z nc = some row → ofList row = some o → H.alloc o = some H' → r = .val (.slice H.next 0 nl (.fix nc)) H' →
      AllocS P ρ H (do pure (.value (← Instr.makeSlice t (σ l) (σ c)))) r := by
    intro row o H' hrow ho ha hr
    subst hr
    have := rowOf_some _ _ _ hrow
    subst this
    have hro := fun r => row_ro (H := H) hn (ofList_content ho) (replicate_rel (hall ρ) nc) (replicate_scalar hsc nc) el r
    refine ⟨_, H', o, .cells ((List.replicate nc us).flatten).toArray el, _, fun r => .slice (some ⟨r, 0 + 0, none⟩) nl nc, rfl, ha, (hro 0).1, fun w => ?_, fun r => (hro r).2, fun r => .sfix (put_self _ _) b1⟩
    rw [Sem.run_bind, hmodel w _ (row_run _ _ _)]; rfl
  have hother : (ob (rowOf z nc) fun r => ob (ofList r) fun o => allocV H o (.slice H.next 0 nl (.fix nc))) = some r → AllocS P ρ H (do pure (.value (← Instr.makeSlice t (σ l) (σ c)))) r := by
    intro hh
    obtain ⟨row, hrow, h1⟩ := ob_some hh
    obtain ⟨o, ho, h2⟩ := ob_some h1
    obtain ⟨H', ha, hr⟩ := allocV_inv h2
    exact hgen row o H' hrow ho ha hr
  unfold makeRow at h11
  split at h11
  · rename_i d
    obtain ⟨H', ha, rfl⟩ := allocV_inv h11
    have h12 := hall ρ
    obtain ⟨u, rfl⟩ : ∃ u, us = [u] := by
      have := h12.length
      match us, this with
      | [u], _ => exact ⟨u, rfl⟩
    have hdu : RV ρ d u := by cases h12; assumption
    have hro : ∀ r, RO (ρ.put H.next (r, 0, nc)) (.cells nc d .leaf) 0 nc (.cells ((List.replicate nc [u]).flatten).toArray el) := by
      intro r
      refine .cells (by simp) (by omega) (fun i hi => ⟨d, u, rfl, ?_, hdu.mono (Rho.sub_put hn), hsc u (by simp)⟩) (.inl rfl)
      have := flat_get [u] (by simp) nc i (by simpa using hi)
      simp only [List.getElem?_toArray, Nat.zero_add]
      rw [this]; simp [Nat.mod_one]
    refine ⟨_, H', _, .cells ((List.replicate nc [u]).flatten).toArray el, nc, fun r => .slice (some ⟨r, 0 + 0, none⟩) nl nc, rfl, ha, by simp, fun w => ?_, hro, fun r => .sfix (e := nc) (put_self _ _) b1⟩
    rw [Sem.run_bind, hmodel w _ (row_run _ _ _)]; rfl
  · exact hother h11
/-- Each of the operations that make memory. -/
def isAlloc (o : Op) : Bool := match kindOf o with | .alloc => true | _ => false
theorem allocs (hn : ρ H.next = none) {o : Oper} (hk : isAlloc o.op = true) (he : ∀ x ∈ o.op.operands, ∀ v, e x = some v → RV ρ v (σ x)) {r : OR} (hh : opA P o.op e H = some r) : AllocS P ρ H (execOp σ o) r := by
  classical
  let e' : Env := fun y => if y ∈ o.op.operands then e y else none
  have he' : EnvR ρ e' σ := by
    intro y v hy
    simp only [e'] at hy
    split at hy
    · rename_i hm; exact he y hm v hy
    · cases hy
  have hx' : opA P o.op e' H = some r := by
    rw [← hh]
    exact opA_congr fun y hy => by simp only [e']; rw [if_pos hy]
  generalize e' = e2 at he' hx'
  cases ho : o.op with
  | alloc t => rw [ho] at hx'; unfold execOp; rw [ho]; exact alloc_s hn hx'
  | box t x => rw [ho] at hx'; unfold execOp; rw [ho]; exact box_s hn he' hx'
  | buildSlice t len ps => rw [ho] at hx'; unfold execOp; rw [ho]; exact buildSlice_s hn he' hx'
  | makeMap t x => rw [ho] at hx'; unfold execOp; rw [ho]; exact makeMap_s hx'
  | makeSlice t l c => rw [ho] at hx'; unfold execOp; rw [ho]; exact makeSlice_s hn he' hx'
  | call c =>
    rw [ho] at hk
    obtain ⟨cal, cargs, ats⟩ := c
    cases cal with
    | builtin b => cases b <;> cases hk
    | _ => cases hk
  | _ => rw [ho] at hk; cases hk
end Go.Vex
namespace Go.Vex
/-! ### Sets of operations -/
noncomputable def msk (ms : List Nat) (j : Nat) : Nat := (nth ms j).getD 0
/-- One stands ahead of another. -/
def Bef (ms : List Nat) (i j : Nat) : Prop := Nat.testBit (msk ms j) i = true
theorem testBit_shl (x i : Nat) : Nat.testBit (Nat.shiftLeft 1 x) i = decide (i = x) := by
  show Nat.testBit (1 <<< x) i = _
  rw [Nat.testBit_shiftLeft]
  by_cases h : i = x
  · subst h; simp
  · rw [decide_eq_false h]
    by_cases hle : x ≤ i
    · have : i - x ≠ 0 := by omega
      have h1 : Nat.testBit 1 (i - x) = false := by
        obtain ⟨m, hm⟩ : ∃ m, i - x = m + 1 := ⟨i - x - 1, by omega⟩
        rw [hm, Nat.testBit_succ]; simp
      simp [hle, h1]
    · simp [hle]
theorem testBit_or3 (s a b i : Nat) : Nat.testBit (Nat.lor s (Nat.lor a b)) i = (Nat.testBit s i || (Nat.testBit a i || Nat.testBit b i)) := by
  show Nat.testBit (s ||| (a ||| b)) i = _
  rw [Nat.testBit_or, Nat.testBit_or]
theorem befOne_iff (ms : List Nat) (i : Nat) : ∀ (l : List Edge) (s : Nat),
    Nat.testBit (l.foldl (fun s x => if binds x then Nat.lor s (Nat.lor (Nat.shiftLeft 1 x.on) ((nth ms x.on).getD 0)) else s) s) i = true ↔
      Nat.testBit s i = true ∨ ∃ x ∈ l, binds x = true ∧ (i = x.on ∨ Nat.testBit (msk ms x.on) i = true) := by
  intro l
  induction l with
  | nil => intro s; simp
  | cons x l ih =>
    intro s
    rw [List.foldl_cons, ih]
    by_cases hb : binds x = true
    · rw [if_pos hb, testBit_or3, testBit_shl]
      simp only [Bool.or_eq_true, decide_eq_true_eq, List.mem_cons, exists_eq_or_imp, hb, true_and]
      constructor
      · rintro ((h | h | h) | h)
        · exact .inl h
        · exact .inr (.inl (.inl h))
        · exact .inr (.inl (.inr h))
        · exact .inr (.inr h)
      · rintro (h | (h | h) | h)
        · exact .inl (.inl h)
        · exact .inl (.inr (.inl h))
        · exact .inl (.inr (.inr h))
        · exact .inr h
    · rw [if_neg hb]
      constructor
      · rintro (h | ⟨y, hy, h⟩)
        · exact .inl h
        · exact .inr ⟨y, by simp [hy], h⟩
      · rintro (h | ⟨y, hy, h⟩)
        · exact .inl h
        · rcases List.mem_cons.1 hy with rfl | hy
          · exact absurd h.1 hb
          · exact .inr ⟨y, hy, h⟩
theorem befAll_prefix : ∀ (l : List Oper) (ms : List Nat) (j : Nat), j < ms.length → (befAll l ms)[j]? = ms[j]? := by
  intro l
  induction l with
  | nil => intro ms j _; rfl
  | cons o l ih =>
    intro ms j hj
    unfold befAll
    rw [ih _ j (by simp; omega), List.getElem?_append_left hj]
theorem befAll_get : ∀ (l : List Oper) (ms : List Nat) (j : Nat) (o : Oper), l[j]? = some o → (befAll l ms)[ms.length + j]? = some (befOne o.after.toList ((befAll l ms).take (ms.length + j))) := by
  intro l
  induction l with
  | nil => intro ms j o h; simp at h
  | cons p l ih =>
    intro ms j o h
    unfold befAll
    cases j with
    | zero =>
      simp only [List.getElem?_cons_zero, Option.some.injEq] at h
      subst h
      rw [befAll_prefix _ _ _ (by simp)]
      have e1 : (befAll l (ms ++ [befOne p.after.toList ms])).take (ms.length + 0) = ms := by
        apply List.ext_getElem?
        intro i
        rw [List.getElem?_take]
        by_cases hi : i < ms.length + 0
        · rw [if_pos hi, befAll_prefix _ _ _ (by simp; omega), List.getElem?_append_left (by omega)]
        · rw [if_neg hi]
          rw [List.getElem?_eq_none]; omega
      rw [e1]; simp
    | succ j =>
      have := ih (ms ++ [befOne p.after.toList ms]) j o (by simpa using h)
      have e : (ms ++ [befOne p.after.toList ms]).length + j = ms.length + (j + 1) := by simp; omega
      rw [e] at this
      exact this
/-- What stands ahead of an operation: whom its edges name, and what stands ahead of those. -/
theorem bef_iff {ops : List Oper} (he : edgesOK ops = true) {i j : Nat} {o : Oper} (ho : ops[j]? = some o) :
    Bef (befAll ops []) i j ↔ ∃ x ∈ o.after, binds x = true ∧ (i = x.on ∨ Bef (befAll ops []) i x.on) := by
  have hedge : ∀ (l : List Oper) (k m : Nat) (o : Oper), edgesFrom m l = true → l[k]? = some o → ∀ x ∈ o.after, binds x = true → x.on < m + k := by
    intro l
    induction l with
    | nil => intro k m o _ h; simp at h
    | cons p l ih =>
      intro k m o h hk x hx hb
      unfold edgesFrom at h
      rw [Bool.and_eq_true] at h
      cases k with
      | zero =>
        simp only [List.getElem?_cons_zero, Option.some.injEq] at hk
        subst hk
        have := List.all_eq_true.1 h.1 x (by simpa using hx)
        rw [hb] at this
        simpa using blt_lt this
      | succ k =>
        have := ih k (m + 1) o h.2 (by simpa using hk) x hx hb
        omega
  have h1 := befAll_get ops [] j o ho
  simp only [List.length_nil, Nat.zero_add] at h1
  unfold Bef msk
  rw [nth_eq, h1]
  simp only [Option.getD_some]
  unfold befOne
  rw [befOne_iff]
  simp only [Nat.zero_testBit, Bool.false_eq_true, false_or]
  constructor
  · rintro ⟨x, hx, hb, h⟩
    have hlt := hedge ops j 0 o he ho x (by simpa using hx) hb
    refine ⟨x, by simpa using hx, hb, h.imp id fun h => ?_⟩
    unfold msk at h
    rw [nth_eq, List.getElem?_take, if_pos (by omega)] at h
    rw [nth_eq]; exact h
  · rintro ⟨x, hx, hb, h⟩
    have hlt := hedge ops j 0 o he ho x hx hb
    refine ⟨x, by simpa using hx, hb, h.imp id fun h => ?_⟩
    unfold msk
    rw [nth_eq, List.getElem?_take, if_pos (by omega)]
    rw [nth_eq] at h; exact h
theorem edge_lt {ops : List Oper} (he : edgesOK ops = true) {j : Nat} {o : Oper} (ho : ops[j]? = some o) {x : Edge} (hx : x ∈ o.after) (hb : binds x = true) : x.on < j := by
  have hedge : ∀ (l : List Oper) (k m : Nat) (o : Oper), edgesFrom m l = true → l[k]? = some o → ∀ x ∈ o.after, binds x = true → x.on < m + k := by
    intro l
    induction l with
    | nil => intro k m o _ h; simp at h
    | cons p l ih =>
      intro k m o h hk x hx hb
      unfold edgesFrom at h
      rw [Bool.and_eq_true] at h
      cases k with
      | zero =>
        simp only [List.getElem?_cons_zero, Option.some.injEq] at hk
        subst hk
        have := List.all_eq_true.1 h.1 x (by simpa using hx)
        rw [hb] at this
        simpa using blt_lt this
      | succ k =>
        have := ih k (m + 1) o h.2 (by simpa using hk) x hx hb
        omega
  have := hedge ops j 0 o he ho x hx hb
  omega
theorem bef_lt {ops : List Oper} (he : edgesOK ops = true) : ∀ (j i : Nat) (o : Oper), ops[j]? = some o → Bef (befAll ops []) i j → i < j := by
  intro j
  induction j using Nat.strongRecOn with
  | _ j ih =>
    intro i o ho h
    obtain ⟨x, hx, hb, h⟩ := (bef_iff he ho).1 h
    have hlt := edge_lt he ho hx hb
    rcases h with rfl | h
    · exact hlt
    · have hj := (List.getElem?_eq_some_iff.1 ho).1
      have := ih x.on hlt i ops[x.on] (List.getElem?_eq_getElem (by omega)) h
      omega
end Go.Vex
namespace Go.Vex
variable {P : Program} {ρ : Rho} {H : Hp} {w : World}
/-! ### Sameness -/
theorem sameAV_eq_aux : ∀ (n : Nat), (∀ (a b : AV), SizeOf.sizeOf a ≤ n → sameAV a b = true → a = b) ∧ (∀ (a b : List AV), SizeOf.sizeOf a ≤ n → sameL a b = true → a = b) := by
  intro n
  induction n with
  | zero => exact ⟨fun a b h => by cases a <;> simp at h, fun a b h => by cases a <;> simp at h⟩
  | succ n ih =>
    refine ⟨fun a b h hs => ?_, fun a b h hs => ?_⟩
    · cases a <;> cases b <;> try (first | rfl | (simp [sameAV] at hs; done))
      case bool.bool => simp only [sameAV, beq_iff_eq] at hs; rw [hs]
      case int.int k x j y =>
        simp only [sameAV, Bool.and_eq_true] at hs
        have h2 := hs.2
        rw [intEq_iff] at h2
        rw [kEq_eq hs.1, of_decide_eq_true h2]
      case str.str x y =>
        simp only [sameAV, strEq_iff, decide_eq_true_eq] at hs
        rw [hs]
      case ptr.ptr =>
        simp only [sameAV, Bool.and_eq_true] at hs
        rw [beq_eq hs.1, beq_eq hs.2]
      case slice.slice b i n c b' j m c' =>
        cases c with
        | fix x => cases c' with
          | fix y => simp only [sameAV, Bool.and_eq_true] at hs; rw [beq_eq hs.1, beq_eq hs.2.1, beq_eq hs.2.2.1, beq_eq hs.2.2.2]
          | opn y => simp [sameAV] at hs
        | opn x => cases c' with
          | fix y => simp [sameAV] at hs
          | opn y => simp only [sameAV, Bool.and_eq_true] at hs; rw [beq_eq hs.1, beq_eq hs.2.1, beq_eq hs.2.2.1, beq_eq hs.2.2.2]
      case map.map => simp only [sameAV] at hs; rw [beq_eq hs]
      case func.func f a c g b d =>
        simp only [sameAV, Bool.and_eq_true] at hs
        simp at h
        rw [beq_eq hs.1, ih.2 a b (by omega) hs.2.1, ih.2 c d (by omega) hs.2.2]
      case iface.iface t a u b =>
        simp only [sameAV, Bool.and_eq_true] at hs
        simp at h
        rw [beq_eq hs.1, ih.1 a b (by omega) hs.2]
      case agg.agg a b => simp only [sameAV] at hs; simp at h; rw [ih.2 a b (by omega) hs]
      case tup.tup a b => simp only [sameAV] at hs; simp at h; rw [ih.2 a b (by omega) hs]
    · cases a with
      | nil => cases b with
        | nil => rfl
        | cons y l => simp [sameL] at hs
      | cons x k => cases b with
        | nil => simp [sameL] at hs
        | cons y l =>
          simp only [sameL, Bool.and_eq_true] at hs
          simp at h
          rw [ih.1 x y (by omega) hs.1, ih.2 k l (by omega) hs.2]
theorem sameAV_eq {a b : AV} (h : sameAV a b = true) : a = b := (sameAV_eq_aux _).1 a b (Nat.le_refl _) h
/-! ### A quiet operation, its operands known -/
theorem quiet_ok' (h : Rep ρ H w) {e : Env} {σ : Operand → Value} {o : Oper} (hq : quiet o.op = true) (he : ∀ x ∈ o.op.operands, ∀ v, e x = some v → RV ρ v (σ x)) {r : OR} (hh : opA P o.op e H = some r) : QOK P ρ H w (execOp σ o) r := by
  classical
  let e' : Env := fun y => if y ∈ o.op.operands then e y else none
  have he' : EnvR ρ e' σ := by
    intro y v hy
    simp only [e'] at hy
    split at hy
    · rename_i hm; exact he y hm v hy
    · cases hy
  have hx' : opA P o.op e' H = some r := by
    rw [← hh]
    exact opA_congr fun y hy => by simp only [e']; rw [if_pos hy]
  exact quiet_ok h he' hq hx'
/-! ### What a plan's check says -/
noncomputable def kd (ks : List Kd) (j : Nat) : Kd := (nth ks j).getD .loud
structure HeadF (ops : List Oper) (ks : List Kd) (ms : List Nat) (ahead : List Nat) (s : Step) (rest : List Step) : Prop where
  nin : s.i ∉ ahead
  lt : s.i < ops.length
  pre : ∀ j, j < ops.length → Bef ms j s.i → j ∈ ahead
  behind : kd ks s.i = .loud ∨ kd ks s.i = .alloc → ∀ j ∈ rest.map (·.i), Bef ms s.i j ∨ (kd ks j = .alloc ∧ j ∈ s.early ∧ earlyOK ops ms (s.i :: rest.map (·.i)) j = true) ∨ kd ks j = .pure
  again : kd ks s.i = .loud ∨ kd ks s.i = .alloc → ∀ q ∈ ahead, kd ks q ≠ .quiet ∨ Bef ms q s.i ∨ (q ∈ s.again ∧ againOK ops ms (s.i :: ahead) q = true)
  tail : stepsOK ops ks ms (s.i :: ahead) rest = true
theorem headF {ops : List Oper} {ks : List Kd} {ms : List Nat} {ahead : List Nat} {s : Step} {rest : List Step} (h : stepsOK ops ks ms ahead (s :: rest) = true) : HeadF ops ks ms ahead s rest := by
  unfold stepsOK at h
  simp only [Bool.and_eq_true, Bool.not_eq_true', List.contains_eq_mem, decide_eq_false_iff_not] at h
  obtain ⟨⟨h1, h2⟩, h3⟩ := h
  unfold stepOK at h2
  simp only [Bool.and_eq_true, decide_eq_true_eq] at h2
  obtain ⟨⟨⟨a1, a2⟩, a3⟩, a4⟩ := h2
  refine ⟨h1, a1, fun j hj hb => ?_, fun hk j hj => ?_, fun hk q hq => ?_, h3⟩
  · have := List.all_eq_true.1 a2 j (by simpa using hj)
    have hb' : Nat.testBit ((nth ms s.i).getD 0) j = true := hb
    rw [hb'] at this
    simpa using this
  · have a3' : ((rest.map (·.i)).all fun j => Nat.testBit ((nth ms j).getD 0) s.i || ((nth ks j).getD .loud == .alloc && (s.early.contains j && earlyOK ops ms (s.i :: rest.map (·.i)) j)) || (nth ks j).getD .loud == .pure) = true := by
      rcases hk with hk | hk <;> (unfold kd at hk; rw [hk] at a3; exact a3)
    have := List.all_eq_true.1 a3' j hj
    simp only [Bool.or_eq_true, Bool.and_eq_true, beq_iff_eq, List.contains_eq_mem, decide_eq_true_eq] at this
    rcases this with (h | ⟨h4, h5, h6⟩) | h
    · exact .inl h
    · exact .inr (.inl ⟨h4, h5, h6⟩)
    · exact .inr (.inr h)
  · have a4' : (ahead.all fun q => (nth ks q).getD .loud != .quiet || Nat.testBit ((nth ms s.i).getD 0) q || (s.again.contains q && againOK ops ms (s.i :: ahead) q)) = true := by
      rcases hk with hk | hk <;> (unfold kd at hk; rw [hk] at a4; exact a4)
    have := List.all_eq_true.1 a4' q hq
    simp only [Bool.or_eq_true, Bool.and_eq_true, bne_iff_ne, ne_eq, List.contains_eq_mem, decide_eq_true_eq] at this
    rcases this with (h | h) | h
    · exact .inl h
    · exact .inr (.inl h)
    · exact .inr (.inr h)
theorem slotsOK_inv {ops : List Oper} {ms : List Nat} (h : slotsOK ops ms = true) {i j : Nat} {oi oj : Oper} (hi : ops[i]? = some oi) (hj : ops[j]? = some oj) (hne : i ≠ j) {d : Tmp} (hd : oi.dst = some d) :
    oj.dst ≠ some d ∧ (d ∈ slotsOf ops oj → Bef ms i j ∨ Bef ms j i) := by
  unfold slotsOK at h
  have h1 := List.all_eq_true.1 h i (by simpa using (List.getElem?_eq_some_iff.1 hi).1)
  simp only [nth_eq, hi, hd] at h1
  have h2 := List.all_eq_true.1 h1 j (by simpa using (List.getElem?_eq_some_iff.1 hj).1)
  have hb : (i == j) = false := by simpa using hne
  simp only [hb, Bool.false_or, hj, Bool.and_eq_true, bne_iff_ne, ne_eq, Bool.or_eq_true, Bool.not_eq_true', List.contains_eq_mem, decide_eq_false_iff_not] at h2
  refine ⟨h2.1, fun hm => ?_⟩
  unfold Bef msk
  rw [nth_eq, nth_eq]
  rcases h2.2 with (h3 | h3) | h3
  · exact absurd hm h3
  · exact .inl h3
  · exact .inr h3
theorem againOK_inv {ops : List Oper} {ms : List Nat} {l : List Nat} {q : Nat} {o : Oper} (ho : ops[q]? = some o) (h : againOK ops ms l q = true) {d : Tmp} (hd : d ∈ slotsOf ops o) {k : Nat} (hk : k ∈ l) (hw : dstOf ops k = some d) : Bef ms k q := by
  unfold againOK slotsAt at h
  rw [nth_eq, ho] at h
  have h1 := List.all_eq_true.1 h d hd
  have h2 := List.all_eq_true.1 h1 k hk
  rw [hw] at h2
  simpa [Bef, msk] using h2
theorem earlyOK_inv {ops : List Oper} {ms : List Nat} {l : List Nat} {q : Nat} {o : Oper} (ho : ops[q]? = some o) (h : earlyOK ops ms l q = true) {d : Tmp} (hd : d ∈ slotsOf ops o) {k : Nat} (hk : k ∈ l) (hw : dstOf ops k = some d) : ¬ Bef ms k q := by
  unfold earlyOK slotsAt at h
  rw [nth_eq, ho] at h
  have h1 := List.all_eq_true.1 h d hd
  have h2 := List.all_eq_true.1 h1 k hk
  rw [hw] at h2
  intro hb
  have hb' : Nat.testBit ((nth ms q).getD 0) k = true := hb
  rw [hb'] at h2
  simp at h2
/-! ### A real block is taken over -/
theorem Rep.adopt (h : Rep ρ H w) {o : AO} {H' : Hp} (ha : H.alloc o = some H') (hd : Lv o) {r e : Nat} {ob : Obj} (hw : w.heap[r]? = some ob) (hu : Un ρ H r) (hur : ∀ b n d t, H.fn b = .ro n d t → 0 < n → ∀ y, ρ b ≠ some (r, y)) (ho : RO (ρ.put H.next (r, 0, e)) o 0 e ob) :
    Rep (ρ.put H.next (r, 0, e)) H' w ∧ ρ.sub (ρ.put H.next (r, 0, e)) ∧ H.next ≤ H'.next ∧ (∀ r', r' ≠ r → Un ρ H r' → Un (ρ.put H.next (r, 0, e)) H' r') ∧ ∀ b n d t, H'.fn b = .ro n d t → H.fn b = .ro n d t := by
  obtain ⟨hn, hf⟩ := Hp.alloc_fn ha
  have hnone := h.nxt H.next (Nat.le_refl _)
  have hsub : ρ.sub (ρ.put H.next (r, 0, e)) := Rho.sub_put hnone
  have hun : ∀ r', r' ≠ r → Un ρ H r' → Un (ρ.put H.next (r, 0, e)) H' r' := by
    intro r' hr' hu' b r1 x hb hr1
    rw [hf] at hb
    by_cases hbn : b = H.next
    · simp only [Rho.put, hbn, if_true, Option.some.injEq, Prod.mk.injEq] at hr1
      rw [← hr1.1]; exact Ne.symm hr'
    · rw [if_neg hbn] at hb
      simp only [Rho.put, if_neg hbn] at hr1
      exact hu' b r1 x hb hr1
  have hros : ∀ b n d t, H'.fn b = .ro n d t → H.fn b = .ro n d t := by
    intro b n d t hb
    rw [hf] at hb
    by_cases hbn : b = H.next
    · rw [if_pos hbn] at hb; rw [hb] at hd; exact hd.elim
    · rw [if_neg hbn] at hb; exact hb
  refine ⟨⟨fun b hb => ?_, fun b b' r1 x r' x' hb hb' hr hr' hne => ?_, fun b hb => ?_, fun b n d t hb => ?_⟩, hsub, by omega, hun, hros⟩
  · by_cases hbn : b = H.next
    · subst hbn
      refine ⟨r, 0, e, ob, by simp [Rho.put], hw, ?_⟩
      rw [hf, if_pos rfl]; exact ho
    · rw [hf, if_neg hbn] at hb
      obtain ⟨r1, base, e', ob', h1, h2, h3⟩ := h.live b hb
      refine ⟨r1, base, e', ob', by simp [Rho.put, hbn, h1], h2, ?_⟩
      rw [hf, if_neg hbn]; exact h3.mono hsub
  · rw [hf] at hb hb'
    by_cases hbn : b = H.next
    · have hbn' : b' ≠ H.next := fun e => hne (hbn.trans e.symm)
      rw [if_neg hbn'] at hb'
      simp only [Rho.put, hbn, if_true, Option.some.injEq, Prod.mk.injEq] at hr
      simp only [Rho.put, if_neg hbn'] at hr'
      have := hu b' r' x' hb' hr'
      rw [← hr.1]; exact Ne.symm this
    · rw [if_neg hbn] at hb
      simp only [Rho.put, if_neg hbn] at hr
      by_cases hbn' : b' = H.next
      · simp only [Rho.put, hbn', if_true, Option.some.injEq, Prod.mk.injEq] at hr'
        have := hu b r1 x hb hr
        rw [← hr'.1]; exact this
      · rw [if_neg hbn'] at hb'
        simp only [Rho.put, if_neg hbn'] at hr'
        exact h.inj b b' r1 x r' x' hb hb' hr hr' hne
  · have : b ≠ H.next := by omega
    simp only [Rho.put, if_neg this]
    exact h.nxt b (by omega)
  · have hb := hros b n d t hb
    obtain ⟨r1, base, e1, q1, q0⟩ := h.rd b n d t hb
    refine ⟨r1, base, e1, hsub _ _ q1, fun hn => ?_⟩
    obtain ⟨c, el, fz, q2, q3, q4, q5, q6⟩ := q0 hn
    have hne : r1 ≠ r := by intro e2; subst e2; exact hur b n d t hb hn _ q1
    exact ⟨c, el, fz, q2, q3, q4, fun i hi => let ⟨a, v, z1, z2, z3, z4⟩ := q5 i hi; ⟨a, v, z1, z2, z3.mono hsub, z4⟩, hun r1 hne q6⟩
end Go.Vex
