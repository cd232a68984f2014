/-
  A run of the program by the evaluator.
  No condition.
-/
import Derived.Test.YtbpphcdicekifaaGreatVxP
import Derived.Test.YtbpphcdicekifaaGreatVxH
import Derived.Test.YtbpphcdicekifaaGreatGenNamesF0
import Derived.Test.YtbpphcdicekifaaGreatGenNamesF1
import Derived.Test.YtbpphcdicekifaaGreatGenNamesF2
import Derived.Test.YtbpphcdicekifaaGreatGenNamesF4
import Derived.Test.YtbpphcdicekifaaGreatGenNamesF5
set_option linter.unusedVariables false
namespace Go.Vex
open Go.Proofs
noncomputable def R1.retB (k : KR) : Option Bool := match k with | .ret (.bool b) _ => some b | _ => none
set_option maxRecDepth 100000 in
theorem R1.run : ob (callStep Tryz.prog R1.msk (withFact R1.F5 (withFact R1.F4 (withFact R1.F2 (withFact R1.F1 (withFact R1.F0 R1.orc))))) (ev Tryz.prog (fun c => Nat.beq (Nat.mod c 32) 20) R1.msk (withFact R1.F5 (withFact R1.F4 (withFact R1.F2 (withFact R1.F1 (withFact R1.F0 R1.orc))))) 1000000) 3 [] ⟨0, .leaf⟩) R1.retB = some true := by kernel_rfl
theorem R1.calls (w : World) : Calls Tryz.prog 3 #[] w fun e w' => e = .returned (.bool true) ∧ ∀ may, w.keptBut w' may := by
  obtain ⟨k, hk, h1⟩ := ob_some R1.run
  unfold R1.retB at h1
  split at h1
  · injection h1 with h1; subst h1
    exact closed (by kernel_rfl) (withFact_ok R1.F5_ok (withFact_ok R1.F4_ok (withFact_ok R1.F2_ok (withFact_ok R1.F1_ok (withFact_ok R1.F0_ok R1.orc_ok))))) hk (by kernel_rfl) w
  · cases h1
end Go.Vex
