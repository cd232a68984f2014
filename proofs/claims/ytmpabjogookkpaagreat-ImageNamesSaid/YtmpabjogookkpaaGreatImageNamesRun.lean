/-
  A run of the program by the evaluator.
  No condition.
-/
import Derived.Test.YtmpabjogookkpaaGreatVxO
set_option linter.unusedVariables false
namespace Go.Vex
open Go.Proofs
def IN.mskT : T Nat := (.node 0 (.node 0 (.node 4759259971017736484343 (.node 144642955670490815 (.node 720576215274474973 (.node 7 (.node 1 (.node 19 .leaf .leaf) (.node 0 .leaf .leaf)) (.node 7 (.node 7 .leaf .leaf) .leaf)) (.node 39 (.node 154742507216519941624694783 (.node 5 .leaf .leaf) .leaf) (.node 335 (.node 3 .leaf .leaf) .leaf))) (.node 1 (.node 3 (.node 16413 (.node 15 .leaf .leaf) .leaf) (.node 7 (.node 1 .leaf .leaf) .leaf)) (.node 140737488373759 (.node 2417851783344575777607423 (.node 78599363469897180553692103 .leaf .leaf) .leaf) (.node 335 (.node 0 .leaf .leaf) .leaf)))) (.node 9922871984139892312667848095 (.node 1048627 (.node 4123200070335 (.node 67339295 (.node 3 .leaf .leaf) (.node 0 .leaf .leaf)) (.node 15 (.node 15 .leaf .leaf) .leaf)) (.node 1087 (.node 111 (.node 19 .leaf .leaf) .leaf) (.node 847 (.node 0 .leaf .leaf) .leaf))) (.node 79 (.node 251674685 (.node 8796126577471 (.node 51 .leaf .leaf) .leaf) (.node 335 (.node 13 .leaf .leaf) .leaf)) (.node 8646911284803010653 (.node 7 (.node 2334035 .leaf .leaf) .leaf) (.node 19 (.node 0 .leaf .leaf) .leaf))))) (.node 1077936413 (.node 31 (.node 4194355 (.node 1431579357 (.node 67108883 (.node 11 .leaf .leaf) (.node 0 .leaf .leaf)) (.node 1 (.node 51 .leaf .leaf) .leaf)) (.node 1079 (.node 31 (.node 247 .leaf .leaf) .leaf) (.node 65871 (.node 7 .leaf .leaf) .leaf))) (.node 16806963 (.node 2101491 (.node 21 (.node 252201579132747827 .leaf .leaf) .leaf) (.node 32787 (.node 1 .leaf .leaf) .leaf)) (.node 3 (.node 223 (.node 65607 .leaf .leaf) .leaf) (.node 847 (.node 0 .leaf .leaf) .leaf)))) (.node 590432176463723689391 (.node 33584179 (.node 71 (.node 32987 (.node 7 .leaf .leaf) .leaf) (.node 31 (.node 1 .leaf .leaf) .leaf)) (.node 1 (.node 524303 (.node 7 .leaf .leaf) .leaf) (.node 335 (.node 0 .leaf .leaf) .leaf))) (.node 102894251646650658546105295247390479821680358314191760245391327 (.node 17180919727 (.node 16806963 (.node 29 .leaf .leaf) .leaf) (.node 4294969167 (.node 13 .leaf .leaf) .leaf)) (.node 66483 (.node 79267452677197797635334867095 (.node 134224379 .leaf .leaf) .leaf) (.node 31 (.node 0 .leaf .leaf) .leaf)))))) (.node 0 (.node 9567 (.node 2417851784471308419498749 (.node 3 (.node 9671406628974747828879487 (.node 527 (.node 19 .leaf .leaf) (.node 0 .leaf .leaf)) (.node 7 (.node 71 .leaf .leaf) .leaf)) (.node 7 (.node 23 (.node 3 .leaf .leaf) .leaf) (.node 335 (.node 5 .leaf .leaf) .leaf))) (.node 7965121005514487 (.node 3 (.node 21 (.node 3849 .leaf .leaf) .leaf) (.node 3 (.node 1 .leaf .leaf) .leaf)) (.node 1 (.node 123 (.node 268567795 .leaf .leaf) .leaf) (.node 271 (.node 0 .leaf .leaf) .leaf)))) (.node 21 (.node 158473254841537508450717212669 (.node 276924791133 (.node 16778087 (.node 34611255 .leaf .leaf) .leaf) (.node 5 (.node 51 .leaf .leaf) .leaf)) (.node 3934399 (.node 3 (.node 15 .leaf .leaf) .leaf) (.node 271 (.node 0 .leaf .leaf) .leaf))) (.node 36893504641204842419 (.node 21 (.node 566728059186443668424063 (.node 1 .leaf .leaf) .leaf) (.node 335 (.node 1035 .leaf .leaf) .leaf)) (.node 2168455229 (.node 61475 (.node 4119 .leaf .leaf) .leaf) (.node 10052677739677 (.node 0 .leaf .leaf) .leaf))))) (.node 131103 (.node 140737488355839 (.node 3885 (.node 16806963 (.node 33587519 (.node 123 .leaf .leaf) (.node 0 .leaf .leaf)) (.node 1 (.node 15 .leaf .leaf) .leaf)) (.node 126671 (.node 18278316228226623 (.node 9007201404321899 .leaf .leaf) .leaf) (.node 33555279 (.node 199 .leaf .leaf) .leaf))) (.node 2251869540847615 (.node 7 (.node 104450985136798700546334618295036869566166904877575317599191099 (.node 8389643 .leaf .leaf) .leaf) (.node 37 (.node 1 .leaf .leaf) .leaf)) (.node 154744884540660370766824719 (.node 7 (.node 11 .leaf .leaf) .leaf) (.node 5 (.node 0 .leaf .leaf) .leaf)))) (.node 83 (.node 16806963 (.node 72057868916883959 (.node 1 (.node 523 .leaf .leaf) .leaf) (.node 19 (.node 455 .leaf .leaf) .leaf)) (.node 5 (.node 17298327269316452047 (.node 15 .leaf .leaf) .leaf) (.node 335 (.node 0 .leaf .leaf) .leaf))) (.node 19 (.node 5580653668482417551536042050400643922919421 (.node 32807 (.node 1 .leaf .leaf) .leaf) (.node 2099023 (.node 1 .leaf .leaf) .leaf)) (.node 21 (.node 3 (.node 7 .leaf .leaf) .leaf) (.node 19 (.node 0 .leaf .leaf) .leaf)))))))
noncomputable def IN.msk (f : FuncId) : Nat := optRec 0 (fun x => x) (T.get 0 IN.mskT f)
noncomputable def IN.orc : Orc := fun f => iteB (Nat.beq f 60) (some orcOps) none
theorem IN.orc_ok : OrcOK Tryz.prog IN.orc := by
  intro f g hg args H k h ρ w us ha hr
  unfold IN.orc at hg
  obtain ⟨hb, hg⟩ := iteB_some hg
  injection hg with hg; subst hg
  have := beq_eq hb; subst this
  match args, h with
  | [p], h => exact ops_calls h ha hr
  | [], h => cases h
  | _ :: _ :: _, h => cases h
noncomputable def IN.retB (k : KR) : Option Bool := match k with | .ret (.bool b) _ => some b | _ => none
set_option maxRecDepth 100000 in
theorem IN.run : ob (callStep Tryz.prog IN.msk IN.orc (ev Tryz.prog (fun c => Nat.beq c 16) IN.msk IN.orc 1000000) 4 [] ⟨0, .leaf⟩) IN.retB = some true := by kernel_rfl
theorem IN.calls (w : World) : Calls Tryz.prog 4 #[] w fun e w' => e = .returned (.bool true) ∧ ∀ may, w.keptBut w' may := by
  obtain ⟨k, hk, h1⟩ := ob_some IN.run
  unfold IN.retB at h1
  split at h1
  · injection h1 with h1; subst h1
    exact closed (by kernel_rfl) IN.orc_ok hk (by kernel_rfl) w
  · cases h1
end Go.Vex
