/-
  The closed run at the end of the law.
  No condition.
-/
import Derived.Test.YtmpabjogookkpaaGreatBkA
import Derived.Test.YtmpabjogookkpaaGreatVxJ
set_option linter.unusedVariables false
namespace Go.Vex
open Go.Proofs
noncomputable def LR2.orc : Orc := fun f => iteB (Nat.beq f 60) (some orcOps) none
theorem LR2.orc_ok : OrcOK Tryz.prog LR2.orc := by
  intro f g hg args H k h ρ w us ha hr
  unfold LR2.orc at hg
  obtain ⟨hb, hg⟩ := iteB_some hg
  injection hg with hg; subst hg
  have := beq_eq hb; subst this
  match args, h with
  | [p], h => exact ops_calls h ha hr
  | [], h => cases h
  | _ :: _ :: _, h => cases h
set_option maxRecDepth 100000 in
theorem LR2.run : ob (callStep Tryz.prog R2.msk LR2.orc (ev Tryz.prog (fun c => Nat.beq c 16) R2.msk LR2.orc 1000000) 10 [] ⟨0, .leaf⟩) (givesV (.bool true)) = some () := by kernel_rfl
/-- lives. -/
theorem liv_spec (H : Hp) : Spec Tryz.prog 10 [] H (Pure (.bool true) H) := by
  obtain ⟨k, hk, h1⟩ := ob_some LR2.run
  obtain ⟨H1, rfl⟩ := givesV_inv h1
  exact spec_run (n := 1) (by kernel_rfl) LR2.orc_ok (by kernel_rfl) rfl rfl hk H
end Go.Vex
