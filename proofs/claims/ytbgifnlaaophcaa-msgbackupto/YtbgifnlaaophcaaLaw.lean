/- For every input of bulk at most 1048576 the law MsgBack returns true. No other condition. -/
import Derived.Test.YtbgifnlaaophcaaRows
import Derived.Test.YtbgifnlaaophcaaGC
set_option linter.unusedSimpArgs false
set_option linter.unusedVariables false
/- For every input of bulk at most 1048576 the law MsgBack returns true. No other condition. -/
set_option linter.unusedSimpArgs false
set_option linter.unusedVariables false
namespace Go.Proofs.Ytbgifnlaaophcaa.msgBack
open Go Go.Rw Go.ChangeShapes Go.WideShapes Go.ChangeAt Go.RowKit

set_option maxRecDepth 100000 in
theorem contract (H : Type) (enc : TypeId × Value → H) (W : World) (base : Nat) (args : Array Value) (ds gs : List (DataW H)) (before : List MemPlace)
    (hval : ∀ (j : Nat) t v, Try.f5.params[j]? = some t → args[j]? = some v → Value.okWide Try.prog W .any base t v)
    (hW : DataW.Whole enc Try.prog Try.f5.params.toList Rows.msgBackSpec.vars false W args.toList ds gs before) (hk : Rows.uptoSmall H (ds ++ gs) = true) :
    Calls Try.prog 5 args W fun e W' => ∃ v, e = .returned v ∧ Rows.msgBackSpec.post enc Try.prog Try.f5 false true false false W args v W' := by
  obtain ⟨p, q, hA, hV, _, _, _⟩ := id hW
  rw [Try.params5] at hA hval
  obtain ⟨rfl, _⟩ := trodVars_none hV
  obtain ⟨v0, vs0, d0, ds0, p0, q0, hargs, rfl, rfl, h0, r0⟩ := trodAll_cons hA
  obtain ⟨v1, vs1, d1, ds1, p1, q1, rfl, rfl, rfl, h1, r1⟩ := trodAll_cons r0
  obtain ⟨v2, vs2, d2, ds2, p2, q2, rfl, rfl, rfl, h2, r2⟩ := trodAll_cons r1
  obtain ⟨rfl, rfl, rfl⟩ := trodAll_nil r2
  obtain rfl : args = #[v0, v1, v2] := by cases args; simp_all
  have hb := bulk_of hk
  simp only [List.append_nil, Rows.uptoBulkAll] at hb
  obtain ⟨a, ha, ga⟩ := arg_agg reads_msg Try.underlying29 (hval 0 _ v0 rfl rfl) h0 (by omega)
  obtain ⟨b, hb', gb⟩ := arg_one reads_int (one_cell Try.underlying3 (by intro _ h; cases h) (by intro _ _ h; cases h) (hval 1 _ v1 rfl rfl)) h1 (by omega)
  obtain ⟨c, hc', gc⟩ := arg_one reads_u32 (one_cell Try.underlying38 (by intro _ h; cases h) (by intro _ _ h; cases h) (hval 2 _ v2 rfl rfl)) h2 (by omega)
  have gl := ga.lens
  have gb2 : b ≤ 9223372036854775807 := gb.2
  refine law_close laidOut (by rw [Try.params5]; intro t ht; simp at ht; rcases ht with rfl | rfl | rfl <;> exact ⟨by kernel_rfl, of_decide_eq_true (by kernel_rfl)⟩) (tb := 4) (by kernel_rfl) (by kernel_rfl) rfl hW rfl rfl rfl ?_
  exact (back_spec a b c ga.fit (by omega) (by omega) gb2).calls (cargs := [v0, v1, v2]) (by kernel_rfl) (reps_three ha hb' hc')

set_option maxRecDepth 100000 in
theorem lifted (os : Os) (started : os.Started) (H : Type) (enc : TypeId × Value → H) (F : Stop.Interp) :
    ReturnsInHanded {} Try.checked os 5 .any ((Rows.OpenSpec.upto Rows.msgBackSpec).pre6 enc Try.prog Try.f5 Rows.msgBackUptoRow.domain false) (((Rows.OpenSpec.upto Rows.msgBackSpec).at F).post enc Try.prog Try.f5 false true false false) := by
  refine returnsInHanded_of_cond (C := Try.checked) (s := Rows.OpenSpec.upto Rows.msgBackSpec) (k := Rows.uptoSmall) rfl own started (by kernel_rfl) Try.func5
    (OpenSpec.witness (enc := enc) (C := Try.checked) (s := Rows.OpenSpec.upto Rows.msgBackSpec) (k := Rows.uptoSmall) rfl false ⟨#[], #[zeroMsg, .int .i64 0, .int .u32 0], []⟩ 8 (by kernel_rfl) (by kernel_rfl) (by kernel_rfl)
      (x := ([zeroMsgD, z0, .lit (.int .u32 0)], [], [])) (by kernel_rfl) rfl (by kernel_rfl)) ?_
  intro W base args ds gs before hval hW _ hk _
  exact contract H enc W base args ds gs before hval hW hk

theorem proved : Rows.MsgBackUptoSaid :=
  OpenClaim.holds_of_cond 5 Try.f5 rfl rfl rfl rfl rfl rfl rfl ⟨rfl, rfl, rfl, rfl, rfl⟩ rfl rfl rfl rfl rfl (by kernel_rfl) Try.func5 (by kernel_rfl)
    (of_decide_eq_true (by kernel_rfl)) (by unfold Func.isWrapper; first | (rw [if_pos (by decide +kernel)]; kernel_rfl) | (rw [if_neg (by decide +kernel)]; exact ⟨rfl, rfl⟩))
    (fun os started H enc _ F => lifted os started H enc F)
end Go.Proofs.Ytbgifnlaaophcaa.msgBack
