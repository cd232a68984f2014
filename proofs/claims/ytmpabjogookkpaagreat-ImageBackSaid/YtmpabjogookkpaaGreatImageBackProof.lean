/-
  ImageBack: for every image and every row of bytes the law returns true, and both read afterwards as they read before: the walk is done by hand over an abstract evaluator that is proved sound; the closed run at its end is worked out by it.
  No condition.
-/
import Derived.Test.YtmpabjogookkpaaGreatRows
import Derived.WalkKit
import Derived.ProofKit
import Derived.OpenShut
import Derived.WideKeyArgs
import Derived.ChangeMaps5
import Derived.Test.YtmpabjogookkpaaGreatBkJ
set_option linter.unusedVariables false
namespace Go.Proofs.YtmpabjogookkpaaGreat.imageBack
open Go.ChangeShapes Go.WideShapes Go.ChangeAt Go.RowKit Go.ChangeMaps
set_option linter.unusedVariables false

theorem own : ownKnob Tryz.prog.godebug = none := by kernel_rfl
theorem laidOut : laidOutB Tryz.prog = true := by kernel_rfl
/-! ### The walk -/
set_option maxRecDepth 100000 in
theorem walk {H : Type} {enc : TypeId × Value → H} {W : World} {base : Nat} {v0 : Value} {d0 : DataW H} {p0 : List MemPlace} (s : ByteArray) (hval : Value.okWide Tryz.prog W .any base 25 v0) (h0 : DataW.Trod enc Tryz.prog W 0 (fun _ => true) true 25 v0 d0 p0) :
    Calls Tryz.prog 3 #[v0, .string s] W fun e w' => e = .returned (.bool true) ∧ (∀ may, W.keptBut w' may) ∧ ∀ i, i < W.heap.size → w'.heap[i]? = W.heap[i]? := by
  obtain ⟨m, L, Vc, Ve, h1, h2, h3, h4, h5, h6⟩ := Go.Vex.image_opened hval h0
  exact Go.Vex.calls_ro (L := L) h4 (us := [v0, .string s]) (.cons h5 (.cons (.str s) .nil)) fun Hp hn hr =>
    Go.Vex.iback_spec m h1 h2 h3 Vc Ve (h6 Hp hn hr).1 (h6 Hp hn hr).2 (Go.Vex.natsOf s.data.toList) (Go.Vex.nats_lt s)
theorem same_at {w w' : World} (h : ∀ i, i < w.heap.size → w'.heap[i]? = w.heap[i]?) {p : MemPlace} (hb : p.block < w.heap.size) : w.sameAt w' p := by
  cases p with
  | cell b o =>
    show w'.cell? ⟨b, o, none⟩ = w.cell? ⟨b, o, none⟩
    unfold World.cell?
    rw [h b hb]
  | map b => exact h b hb

/-! ### The row's step -/
set_option maxRecDepth 100000 in
theorem lifted (os : Os) (started : os.Started) (H : Type) (enc : TypeId × Value → H) :
    ReturnsInHanded {} Tryz.checked os 3 .any (Rows.imageBackSpec.pre6 enc Tryz.prog Tryz.f3 Rows.imageBackRow.domain false) (Rows.imageBackSpec.post enc Tryz.prog Tryz.f3 false true false false) := by
  refine returnsInHanded_of_change (C := Tryz.checked) own started (by kernel_rfl) Tryz.func3
    (ChangeSpec.witness6 (enc := enc) (C := Tryz.checked) false ⟨#[], #[.agg #[.slice none 0 0, .int .i64 0, .slice none 0 0], .string ⟨#[]⟩], []⟩ 8 (by kernel_rfl) (by kernel_rfl) (by kernel_rfl) (by kernel_rfl)) ?_
  intro W base args ds gs before hval0 hW hcnd _
  have hval : ∀ (j : Nat) t v, Tryz.f3.params[j]? = some t → args[j]? = some v → Value.okWide Tryz.prog W .any base t v := hval0
  have hW' := hW
  obtain ⟨p, q, hA0, hV, rfl, hfz, hnd⟩ := hW
  have hA : DataW.TrodAll enc Tryz.prog W 0 (fun _ => true) true Tryz.f3.params.toList args.toList ds p := hA0
  rw [Tryz.params3] at hA hval
  obtain ⟨v0, vs0, d0, ds0, p0, q0, hargs, rfl, rfl, h0, r0⟩ := trodAll_cons hA
  obtain ⟨v1, vs1, d1, ds1, p1, q1, rfl, rfl, rfl, h1, r1⟩ := trodAll_cons r0
  obtain ⟨rfl, rfl, rfl⟩ := trodAll_nil r1
  obtain rfl : args = #[v0, v1] := by cases args; simp_all
  obtain ⟨rfl, rfl⟩ := trodVars_none hV
  obtain ⟨s, rfl, rfl, rfl, hs⟩ := open_string Tryz.underlying9 (hval 1 9 v1 rfl rfl) h1
  have hv0 := hval 0 25 v0 rfl rfl
  clear hA0 hval0
  simp only [List.append_nil] at hW'
  have hlt := hW'.lt
  refine (walk s hv0 h0).mono fun e W' ⟨he, hg, hh⟩ => ?_
  subst he
  have hargs' : DataW.TrodAll enc Tryz.prog W' 0 (fun x => decide (x < W.heap.size)) true [25, 9] [v0, .string s] [d0, .lit (.string s.data.toList)] (p0 ++ []) :=
    trodAll_mk2 (WideElems.Trod_stays (P := Tryz.prog) laidOut (by kernel_rfl) (of_decide_eq_true (by kernel_rfl)) h0 (fun x hx => same_at hh (hlt x (by simpa using hx))) (fun x hx => by simpa using hlt x (by simpa using hx)))
      (shut_string Tryz.underlying9 hs)
  exact ⟨_, rfl, _, _, _, [], _, [], hW', trodAll_mk1 (shut_bool Tryz.underlying4 _), hargs', rfl, hg _, fun h => by cases h⟩

theorem over : Rows.imageBackRow.holds Tryz.pinned (OpenSpec.ofChange Rows.imageBackSpec) :=
  OpenClaim.holds_of_wide 3 Tryz.f3 rfl rfl rfl rfl rfl rfl rfl ⟨rfl, rfl, rfl, rfl, rfl⟩ rfl rfl rfl rfl rfl (by kernel_rfl) Tryz.func3 (by kernel_rfl)
    (of_decide_eq_true (by kernel_rfl)) (by unfold Func.isWrapper; first | (rw [if_pos (by decide +kernel)]; kernel_rfl) | (rw [if_neg (by decide +kernel)]; exact ⟨rfl, rfl⟩))
    (fun os started H enc _ => lifted os started H enc)

/-- ████ THE STATEMENT ████ -/
theorem proved : Rows.ImageBackSaid :=
  over
end Go.Proofs.YtmpabjogookkpaaGreat.imageBack
