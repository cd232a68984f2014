/-
  A run of the program by the evaluator.
  No condition.
-/
import Derived.Test.YtbpphcdicekifaaGreatVxO
import Derived.Test.YtbpphcdicekifaaGreatVxL
set_option linter.unusedVariables false
namespace Go.Vex
open Go.Proofs
noncomputable def R1.orc : Orc := fun f => iteB (Nat.beq f 37) (some orcOps) (iteB (Nat.beq f 65) (some orcLst) none)
theorem R1.orc_ok : OrcOK Tryz.prog R1.orc := by
  intro f g hg args H k h ρ w us ha hr
  unfold R1.orc at hg
  cases hb : Nat.beq f 37 with
  | true =>
    rw [hb] at hg
    have hg : some orcOps = some g := hg
    injection hg with hg; subst hg
    have := beq_eq hb; subst this
    match args, h with
    | [p], h => exact ops_calls h ha hr
    | [], h => cases h
    | _ :: _ :: _, h => cases h
  | false =>
    rw [hb] at hg
    obtain ⟨hb, hg⟩ := iteB_some (x := some orcLst) hg
    injection hg with hg; subst hg
    have := beq_eq hb; subst this
    exact lst_calls h ha hr
end Go.Vex
