/-
  A run of the program by the evaluator.
  No condition.
-/
import Derived.Test.YtbpphcdicekifaaGreatVxM
import Derived.Test.YtbpphcdicekifaaGreatVxH
set_option linter.unusedVariables false
namespace Go.Vex
open Go.Proofs
open Go.ChangeMaps (setBlock)
set_option maxRecDepth 100000
/-! ### The registers of an empty set -/
def seqL (c : Code) : Code := match c with | .seq a _ => a | c => c
def seqR (c : Code) : Code := match c with | .seq _ b => b | c => c
def normOf (r : CR) : Option St := match r with | .norm s => some s | _ => none
def retOf (k : KR) : Option (AV × Hp) := match k with | .ret v H => some (v, H) | _ => none
def nilsOf (v : AV) : Option Unit := match v with | .nils => some () | _ => none
noncomputable def Lst.z : AV := .agg [.int .u64 0, .int .u64 0, .int .u64 0, .int .u64 0, .int .u64 0, .int .u64 0, .int .u64 0, .int .u64 0, .int .u64 0, .int .u64 0, .int .u64 0, .int .u64 0, .int .u64 0, .int .u64 0, .int .u64 0, .int .u64 0]
noncomputable def Lst.E : EvF := ev Tryz.prog (fun _ => false) R1.msk (fun _ => none) 1000000
def Lst.fi : FI := ⟨13, 8191⟩
noncomputable def Lst.body : Code := match Tryz.f65.body with | some c => c | none => .skip
noncomputable def Lst.run : Option Unit :=
  ob (mkTm 13 8191 [Lst.z]) fun tm => ob (Lst.E Lst.fi (seqL Lst.body) ⟨tm, [], ⟨0, .leaf⟩⟩) fun r0 => ob (normOf r0) fun s1 => ob (Lst.E Lst.fi (seqL (seqR Lst.body)) s1) fun r1 => ob (normOf r1) fun s2 =>
  ob (Lst.E Lst.fi (seqL (seqL (seqR (seqR Lst.body)))) s2) fun r2 => ob (normOf r2) fun s3 => ob (look 8191 [] s3.tm 6) fun g => ob g.asFunc fun q => iteB (Nat.beq q.1 134) (iteB (Nat.beq (lenL q.2.1 0) 0) (iteB (Nat.beq (lenL s3.df 0) 0)
  (ob (callStep Tryz.prog R1.msk (fun _ => none) Lst.E 134 (.any :: q.2.2) s3.H) fun k => ob (retOf k) fun x => ob (look 8191 [] s3.tm 3) fun p => ob p.asPtr fun c => ob (x.2.load1 c.1 c.2) nilsOf) none) none) none
theorem Lst.ran : Lst.run = some () := by kernel_rfl
theorem Lst.ty : tyA Tryz.prog 66 = some (false, 1) := by kernel_rfl
theorem Lst.enter : enterOK Tryz.prog 134 = true := by kernel_rfl
theorem Lst.follows : Tryz.prog.follows .mixedOrders = true := by kernel_rfl
def Kept (w w' : World) : Prop := w.heap.size ≤ w'.heap.size ∧ (∀ r, r < w.heap.size → w'.heap[r]? = w.heap[r]?) ∧ w'.os = w.os ∧ w'.output = w.output
theorem All2.nil_inv {α β : Type} {R : α → β → Prop} {l : List α} (hl : l = []) {k : List β} (h : All2 R l k) : k = [] := by subst hl; cases h; rfl
theorem nilsOf_inv {v : AV} (h : nilsOf v = some ()) : v = .nils := by cases v <;> first | rfl | exact absurd h (by intro e; cases e)
theorem normOf_inv {r : CR} {s : St} (h : normOf r = some s) : r = .norm s := by
  cases r with
  | norm s' => injection h with h; rw [h]
  | _ => cases h
theorem retOf_inv {k : KR} {x : AV × Hp} (h : retOf k = some x) : k = .ret x.1 x.2 := by
  cases k with
  | ret v H => injection h with h; rw [← h]
  | _ => cases h
theorem RV.nils_inv {ρ : Rho} {u : Value} (h : RV ρ .nils u) : u = .slice none 0 0 := by cases h; rfl
theorem orcNone : OrcOK Tryz.prog (fun _ => none) := fun f g h => by cases h
theorem Lst.calls (w : World) {us : List Value} (hall : All2 (RV fun _ => none) [Lst.z] us) : Calls Tryz.prog 65 us.toArray w fun e w' => e = .returned (.slice none 0 0) ∧ Kept w w' := by
  have hE : CodeOK Tryz.prog Lst.E := ev_ok (hint := fun _ => false) (msk := R1.msk) orcNone (fun _ hc => draw_ok Lst.follows hc) (fun _ hc => idle_ok hc) _
  have hC := callStep_ok (msk := R1.msk) orcNone hE
  have hrun := Lst.ran
  unfold Lst.run at hrun
  obtain ⟨tm, htm, hrun⟩ := ob_some hrun
  obtain ⟨r0, h0, hrun⟩ := ob_some hrun
  obtain ⟨s1, e0, hrun⟩ := ob_some hrun
  obtain ⟨r1, h1, hrun⟩ := ob_some hrun
  obtain ⟨s2, e1, hrun⟩ := ob_some hrun
  obtain ⟨r2, h2, hrun⟩ := ob_some hrun
  obtain ⟨s3, e2, hrun⟩ := ob_some hrun
  obtain ⟨g, hg, hrun⟩ := ob_some hrun
  obtain ⟨q, hq, hrun⟩ := ob_some hrun
  obtain ⟨hqf, hrun⟩ := iteB_some hrun
  obtain ⟨hqn, hrun⟩ := iteB_some hrun
  obtain ⟨hdn, hrun⟩ := iteB_some hrun
  obtain ⟨k, hk, hrun⟩ := ob_some hrun
  obtain ⟨x, hx, hrun⟩ := ob_some hrun
  obtain ⟨p, hp, hrun⟩ := ob_some hrun
  obtain ⟨c, hcc, hrun⟩ := ob_some hrun
  obtain ⟨v, hv, hlast⟩ := ob_some hrun
  have := normOf_inv e0; subst this
  have := normOf_inv e1; subst this
  have := normOf_inv e2; subst this
  have := retOf_inv hx; subst this
  have := nilsOf_inv hlast; subst this
  have hqf := beq_eq hqf
  have hqn := len0 hqn
  have hdn := len0 hdn
  obtain ⟨cb, co⟩ := c
  have := asPtr_inv hcc; subst this
  clear e0 e1 e2 hx hcc hlast
  refine (callsIn_wide (n := 0)).1 (callsIn_of_wp_marks Tryz.func65 rfl trivial (wpIn_wide.2 ?_))
  have hS0 : SR Tryz.prog (fun _ => none) Lst.fi [] ⟨tm, [], ⟨0, .leaf⟩⟩ { tmps := us.toArray ++ Array.replicate (Tryz.f65.ntmps - us.toArray.size) undef, defers := [] } w := by
    refine ⟨?_, .nil, Rep.empty w⟩
    rw [show Tryz.f65.ntmps = 13 from Tryz.ntmps65]
    exact mkTm_ok htm hall
  generalize ({ tmps := us.toArray ++ Array.replicate (Tryz.f65.ntmps - us.toArray.size) undef, defers := [] } : Act) = a0 at hS0
  refine wp_seq (wp_mono (hE Lst.fi _ _ _ h0 _ a0 w hS0).wp fun e a1 w1 hp1 => ?_)
  obtain ⟨rfl, ρ1, hS1, hx1⟩ := hp1
  refine wp_seq (wp_mono (hE Lst.fi _ _ _ h1 _ a1 w1 hS1).wp fun e a2 w2 hp2 => ?_)
  obtain ⟨rfl, ρ2, hS2, hx2⟩ := hp2
  refine wp_seq (wp_seq (wp_mono (hE Lst.fi _ _ _ h2 _ a2 w2 hS2).wp fun e a3 w3 hp3 => ?_))
  obtain ⟨rfl, ρ3, hS3, hx3⟩ := hp3
  have hx03 := (hx1.trans hx2).trans hx3
  have hd3 : a3.defers = [] := hS3.df.nil_inv hdn
  obtain ⟨va, vc, hu6, hva, hvc⟩ := asFunc_rel hq (hS3.env.rel 6 g hg)
  have := All2.nil_inv hqn hva; subst this
  have hu6 : a3.eval (.tmp 6) = .func (.func 134) #[] vc.toArray := by rw [← hqf]; exact hu6
  refine wp_block (rf_ok hC hu6 hvc hS3.rep Lst.enter (H4 := x.2) (by rw [← hqf]; rw [← hqf] at hk; exact hk) fun ρ4 w7 hs4 hr7 gd7 hsz hfr hos hou => ?_)
  have hkept : Kept w w7 := by
    refine ⟨Nat.le_trans hx03.size hsz, fun r hr => ?_, hos.trans hx03.os, hou.trans hx03.out⟩
    have hno : Un (fun _ => none) (⟨0, .leaf⟩ : Hp) r := fun b r' y _ hb => by cases hb
    obtain ⟨k1, k2⟩ := hx03.frame r hr hno
    rw [hfr r (Nat.lt_of_lt_of_le hr hx03.size) k2, k1]
  have hSl : Sl ρ4 13 (fun t => look 8191 [] s3.tm t) { a3 with defers := [{ target := .collected w3.heap.size, args := #[] }] ++ a3.defers } := ⟨hS3.env.size, fun t v hv => (hS3.env.rel t v hv).mono hs4⟩
  have hdd : ({ a3 with defers := [{ target := .collected w3.heap.size, args := #[] }] ++ a3.defers } : Act).defers = [{ target := .collected w3.heap.size, args := #[] }] := by simp [hd3]
  show ((Code.seq _ _).wp _ _ ({ a3 with defers := [{ target := .collected w3.heap.size, args := #[] }] ++ a3.defers } : Act) w7)
  generalize ({ a3 with defers := [{ target := .collected w3.heap.size, args := #[] }] ++ a3.defers } : Act) = a4 at hSl hdd
  refine wp_seq (wp_region ?_)
  refine step_q _ 12 .nils rfl rfl rfl (by decide) hSl hr7 rfl (hop_load Lst.ty hp hv) fun a5 hS5 hd5 _ => ?_
  refine step_q _ 2 .nils rfl rfl rfl (by decide) hS5 hr7 rfl rfl fun a6 hS6 hd6 _ => ?_
  refine wp_ret ?_
  show LeavesInM _ _ _ _ _ _ a6.defers _ _
  rw [hd6, hd5, hdd]
  refine ⟨by simp, .inl ⟨w3.heap.size, _, rfl, run_takeDeferred gd7, _, results_one rfl _ _, ?_, ?_⟩⟩
  · rw [(hS6.rel 2 .nils rfl).nils_inv]
  · obtain ⟨k1, k2, k3, k4⟩ := hkept
    refine ⟨by simp only [World.putObj, Array.size_setIfInBounds]; exact k1, fun r hr => ?_, k3, k4⟩
    rw [World.putObj_heap_other (by have := hx03.size; omega)]
    exact k2 r hr
theorem Lst.flat {ρ ρ' : Rho} {us : List Value} (h : All2 (RV ρ) [Lst.z] us) : All2 (RV ρ') [Lst.z] us := by
  cases h with
  | cons h t =>
    cases t
    refine .cons ?_ .nil
    unfold Lst.z at h ⊢
    cases h with
    | agg hl hs =>
      refine .agg (hl.mono_of fun a ha v hv => ?_) hs
      have : a = .int .u64 0 := by simpa using ha
      subst this
      rw [hv.int_inv]; exact .int _ _
noncomputable def orcLst (args : List AV) (H : Hp) : Option KR := ob (arg0 args) fun p => iteB (sameAV Lst.z p) (some (.ret .nils H)) none
theorem lst_calls {args : List AV} {H : Hp} {k : KR} (h : orcLst args H = some k) {ρ : Rho} {w : World} {us : List Value} (ha : All2 (RV ρ) args us) (hr : Rep ρ H w) : Calls Tryz.prog 65 us.toArray w (KPost ρ H w k) := by
  obtain ⟨p, hp, h⟩ := ob_some h
  obtain ⟨hs, h⟩ := iteB_some h
  injection h with h; subst h
  have := sameAV_eq hs; subst this
  have : args = [Lst.z] := by
    match args, hp with
    | [q], hp => injection hp with hp; rw [hp]
    | [], hp => cases hp
    | _ :: _ :: _, hp => cases hp
  subst this
  refine Calls.mono (Lst.calls w (Lst.flat ha)) fun e w' ⟨he, k1, k2, k3, k4⟩ => ?_
  refine ⟨ρ, _, he, .nils, ⟨fun b hb => ?_, hr.inj, hr.nxt⟩, ρ.sub_refl, Nat.le_refl _, k1, fun r hlt hu => ⟨k2 r hlt, hu⟩, k3, k4⟩
  obtain ⟨r, base, en, ob, h1, h2, h3⟩ := hr.live b hb
  exact ⟨r, base, en, ob, h1, (k2 r (hr.blk_lt hb h1)).trans h2, h3⟩
end Go.Vex
