/- For every input the law FoldNames returns true. No condition. -/
import Derived.Test.YtjbbfiagijjdoaaGreatRows
import Derived.Test.YtjbbfiagijjdoaaGreatRwZ
import Derived.Test.YtjbbfiagijjdoaaGreatGE
set_option linter.unusedSimpArgs false
set_option linter.unusedVariables false
/- For every input the law FoldNames returns true. No condition. -/
set_option linter.unusedSimpArgs false
set_option linter.unusedVariables false
namespace Go.Proofs.YtjbbfiagijjdoaaGreat.foldNames
open Go Go.Rw Go.ChangeShapes Go.WideShapes Go.ChangeAt Go.RowKit

theorem own : ownKnob Tryz.prog.godebug = none := by kernel_rfl

theorem lifted (os : Os) (started : os.Started) (H : Type) (enc : TypeId × Value → H) :
    ReturnsInHanded {} Tryz.checked os 12 .any (Rows.foldNamesSpec.pre6 enc Tryz.prog Tryz.f12 Rows.foldNamesRow.domain false) (Rows.foldNamesSpec.post enc Tryz.prog Tryz.f12 false true false false) := by
  refine returnsInHanded_of_change_sized (C := Tryz.checked) own started (by kernel_rfl) Tryz.func12
    (ChangeSpec.witness6 (enc := enc) (C := Tryz.checked) false ⟨#[], #[], []⟩ 8 (by kernel_rfl) (by kernel_rfl) (by kernel_rfl) (by kernel_rfl)) ?_
  intro W base args ds gs before hval hW _ _ _
  obtain ⟨p, q, hA, hV, _, _, _⟩ := id hW
  have hA' : DataW.TrodAll enc Tryz.prog W 0 (fun _ => true) true Tryz.f12.params.toList args.toList ds p := hA
  rw [Tryz.params12] at hA'
  obtain ⟨ha, rfl, rfl⟩ := trodAll_nil hA'
  obtain ⟨rfl, _⟩ := trodVars_none hV
  obtain rfl : args = #[] := by cases args; simp_all
  refine law_close shared.j1 (by rw [Tryz.params12]; simp) (tb := 4) (by kernel_rfl) (by kernel_rfl) rfl hW rfl rfl rfl ?_
  exact names12_law.calls (cargs := []) (by kernel_rfl) ⟨rfl, by simp⟩

theorem j0 : jfact Tryz.pinned.checked.prog 12 Tryz.f12 Rows.foldNamesSpec Rows.foldNamesRow 0 = true := by kernel_rfl
theorem j3 : jfact Tryz.pinned.checked.prog 12 Tryz.f12 Rows.foldNamesSpec Rows.foldNamesRow 3 = true := by kernel_rfl
theorem j4 : jfact Tryz.pinned.checked.prog 12 Tryz.f12 Rows.foldNamesSpec Rows.foldNamesRow 4 = true := by kernel_rfl
theorem j5 : jfact Tryz.pinned.checked.prog 12 Tryz.f12 Rows.foldNamesSpec Rows.foldNamesRow 5 = true := by kernel_rfl
theorem j6 : jfact Tryz.pinned.checked.prog 12 Tryz.f12 Rows.foldNamesSpec Rows.foldNamesRow 6 = true := by kernel_rfl
theorem j7 : jfact Tryz.pinned.checked.prog 12 Tryz.f12 Rows.foldNamesSpec Rows.foldNamesRow 7 = true := by kernel_rfl
theorem j8 : jfact Tryz.pinned.checked.prog 12 Tryz.f12 Rows.foldNamesSpec Rows.foldNamesRow 8 = true := by kernel_rfl
theorem j9 : jfact Tryz.pinned.checked.prog 12 Tryz.f12 Rows.foldNamesSpec Rows.foldNamesRow 9 = true := by kernel_rfl
theorem j10 : jfact Tryz.pinned.checked.prog 12 Tryz.f12 Rows.foldNamesSpec Rows.foldNamesRow 10 = true := by kernel_rfl
theorem j11 : jfact Tryz.pinned.checked.prog 12 Tryz.f12 Rows.foldNamesSpec Rows.foldNamesRow 11 = true := by kernel_rfl
theorem j12 : jfact Tryz.pinned.checked.prog 12 Tryz.f12 Rows.foldNamesSpec Rows.foldNamesRow 12 = true := by kernel_rfl
theorem j13 : jfact Tryz.pinned.checked.prog 12 Tryz.f12 Rows.foldNamesSpec Rows.foldNamesRow 13 = true := by kernel_rfl
theorem j14 : jfact Tryz.pinned.checked.prog 12 Tryz.f12 Rows.foldNamesSpec Rows.foldNamesRow 14 = true := by kernel_rfl
theorem j15 : jfact Tryz.pinned.checked.prog 12 Tryz.f12 Rows.foldNamesSpec Rows.foldNamesRow 15 = true := by kernel_rfl
theorem j16 : jfact Tryz.pinned.checked.prog 12 Tryz.f12 Rows.foldNamesSpec Rows.foldNamesRow 16 = true := by kernel_rfl
theorem j17 : jfact Tryz.pinned.checked.prog 12 Tryz.f12 Rows.foldNamesSpec Rows.foldNamesRow 17 = true := by kernel_rfl
theorem j18 : jfact Tryz.pinned.checked.prog 12 Tryz.f12 Rows.foldNamesSpec Rows.foldNamesRow 18 = true := by kernel_rfl
theorem j19 : jfact Tryz.pinned.checked.prog 12 Tryz.f12 Rows.foldNamesSpec Rows.foldNamesRow 19 = true := by kernel_rfl
theorem j20 : jfact Tryz.pinned.checked.prog 12 Tryz.f12 Rows.foldNamesSpec Rows.foldNamesRow 20 = true := by kernel_rfl
theorem j21 : jfact Tryz.pinned.checked.prog 12 Tryz.f12 Rows.foldNamesSpec Rows.foldNamesRow 21 = true := by kernel_rfl
theorem j22 : jfact Tryz.pinned.checked.prog 12 Tryz.f12 Rows.foldNamesSpec Rows.foldNamesRow 22 = true := by kernel_rfl
theorem j23 : jfact Tryz.pinned.checked.prog 12 Tryz.f12 Rows.foldNamesSpec Rows.foldNamesRow 23 = true := by kernel_rfl
theorem j28 : jfact Tryz.pinned.checked.prog 12 Tryz.f12 Rows.foldNamesSpec Rows.foldNamesRow 28 = true := by kernel_rfl
theorem j29 : jfact Tryz.pinned.checked.prog 12 Tryz.f12 Rows.foldNamesSpec Rows.foldNamesRow 29 = true := by kernel_rfl
theorem j30 : jfact Tryz.pinned.checked.prog 12 Tryz.f12 Rows.foldNamesSpec Rows.foldNamesRow 30 = true := by kernel_rfl
theorem j31 : jfact Tryz.pinned.checked.prog 12 Tryz.f12 Rows.foldNamesSpec Rows.foldNamesRow 31 = true := by kernel_rfl
theorem jn : Tryz.pinned.checked.prog.funcNamed Rows.foldNamesRow.func = some 12 := by kernel_rfl
theorem ji : Tryz.f12.isInstance Tryz.pinned.checked.prog Rows.foldNamesRow.origin Rows.foldNamesRow.targs := of_decide_eq_true (by kernel_rfl)
theorem jw : Tryz.f12.isWrapper Tryz.pinned.checked.prog Rows.foldNamesRow.wrapper Rows.foldNamesRow.mainSum := by unfold Func.isWrapper; first | (rw [if_pos (by decide +kernel)]; kernel_rfl) | (rw [if_neg (by decide +kernel)]; exact ⟨rfl, rfl⟩)
theorem jj : joinedFacts Tryz.pinned.checked.prog 12 Tryz.f12 Rows.foldNamesSpec Rows.foldNamesRow = true :=
  joinedFacts_of j0 (jfact_1 shared.j1) (jfact_2 shared.j2) j3 j4 j5 j6 j7 j8 j9 j10 j11 j12 j13 j14 j15 j16 j17 j18 j19 j20 j21 j22 j23 (jfact_24 shared.j24) (jfact_25 shared.j25) (jfact_26 shared.j26 rfl) (jfact_27 shared.j27 rfl) j28 j29 j30 j31
theorem proved : Rows.FoldNamesSaid :=
  OpenClaim.holds_of_wide 12 Tryz.f12 rfl rfl rfl rfl rfl rfl rfl ⟨rfl, rfl, rfl, rfl, rfl⟩ rfl rfl rfl rfl rfl jn Tryz.func12 jj ji jw
    (fun os started H enc _ => lifted os started H enc)
end Go.Proofs.YtjbbfiagijjdoaaGreat.foldNames
