/- For every input of bulk at most 1048576 the law LogBurst returns true. No other condition. -/
import Derived.Test.YtbgifnlaaophcaaRows
import Derived.Test.YtbgifnlaaophcaaGD
set_option linter.unusedSimpArgs false
set_option linter.unusedVariables false
/- For every input of bulk at most 1048576 the law LogBurst returns true. No other condition. -/
set_option linter.unusedSimpArgs false
set_option linter.unusedVariables false
namespace Go.Proofs.Ytbgifnlaaophcaa.logBurst
open Go Go.Rw Go.ChangeShapes Go.WideShapes Go.ChangeAt Go.RowKit

set_option maxRecDepth 100000 in
theorem contract (H : Type) (enc : TypeId × Value → H) (W : World) (base : Nat) (args : Array Value) (ds gs : List (DataW H)) (before : List MemPlace)
    (hval : ∀ (j : Nat) t v, Try.f14.params[j]? = some t → args[j]? = some v → Value.okWide Try.prog W .any base t v)
    (hW : DataW.Whole enc Try.prog Try.f14.params.toList Rows.logBurstSpec.vars false W args.toList ds gs before) (hk : Rows.uptoSmall H (ds ++ gs) = true) :
    Calls Try.prog 14 args W fun e W' => ∃ v, e = .returned v ∧ Rows.logBurstSpec.post enc Try.prog Try.f14 false true false false W args v W' := by
  obtain ⟨p, q, hA, hV, _, _, _⟩ := id hW
  rw [Try.params14] at hA hval
  obtain ⟨rfl, _⟩ := trodVars_none hV
  obtain ⟨v0, vs0, d0, ds0, p0, q0, hargs, rfl, rfl, h0, r0⟩ := trodAll_cons hA
  obtain ⟨v1, vs1, d1, ds1, p1, q1, rfl, rfl, rfl, h1, r1⟩ := trodAll_cons r0
  obtain ⟨v2, vs2, d2, ds2, p2, q2, rfl, rfl, rfl, h2, r2⟩ := trodAll_cons r1
  obtain ⟨rfl, rfl, rfl⟩ := trodAll_nil r2
  obtain rfl : args = #[v0, v1, v2] := by cases args; simp_all
  have hb := bulk_of hk
  simp only [List.append_nil, Rows.uptoBulkAll] at hb
  obtain ⟨a0, e0, g0⟩ := arg_one reads_recs (one_cell Try.underlying54 (by intro _ h; cases h) (by intro _ _ h; cases h) (hval 0 _ v0 rfl rfl)) h0 (by omega)
  obtain ⟨a1, e1, g1⟩ := arg_one reads_int (one_cell Try.underlying3 (by intro _ h; cases h) (by intro _ _ h; cases h) (hval 1 _ v1 rfl rfl)) h1 (by omega)
  obtain ⟨a2, e2, g2⟩ := arg_one reads_u32 (one_cell Try.underlying38 (by intro _ h; cases h) (by intro _ _ h; cases h) (hval 2 _ v2 rfl rfl)) h2 (by omega)
  refine law_close laidOut (by rw [Try.params14]; intro t ht; simp at ht; rcases ht with rfl | rfl | rfl <;> exact ⟨by kernel_rfl, of_decide_eq_true (by kernel_rfl)⟩) (tb := 4) (by kernel_rfl) (by kernel_rfl) rfl hW rfl rfl rfl ?_
  exact (logburst_law a0 a1 a2 (goods_fits g0) g1.2).calls (cargs := [v0, v1, v2]) (by kernel_rfl) (reps_three e0 e1 e2)

set_option maxRecDepth 100000 in
theorem lifted (os : Os) (started : os.Started) (H : Type) (enc : TypeId × Value → H) (F : Stop.Interp) :
    ReturnsInHanded {} Try.checked os 14 .any ((Rows.OpenSpec.upto Rows.logBurstSpec).pre6 enc Try.prog Try.f14 Rows.logBurstUptoRow.domain false) (((Rows.OpenSpec.upto Rows.logBurstSpec).at F).post enc Try.prog Try.f14 false true false false) := by
  refine returnsInHanded_of_cond (C := Try.checked) (s := Rows.OpenSpec.upto Rows.logBurstSpec) (k := Rows.uptoSmall) rfl own started (by kernel_rfl) Try.func14
    (OpenSpec.witness (enc := enc) (C := Try.checked) (s := Rows.OpenSpec.upto Rows.logBurstSpec) (k := Rows.uptoSmall) rfl false ⟨#[], #[(.slice none 0 0), (.int .i64 0), (.int .u32 0)], []⟩ 8 (by kernel_rfl) (by kernel_rfl) (by kernel_rfl)
      (x := ([.nil, z0, (.lit (.int .u32 0))], [], [])) (by kernel_rfl) rfl (by kernel_rfl)) ?_
  intro W base args ds gs before hval hW _ hk _
  exact contract H enc W base args ds gs before hval hW hk

theorem proved : Rows.LogBurstUptoSaid :=
  OpenClaim.holds_of_cond 14 Try.f14 rfl rfl rfl rfl rfl rfl rfl ⟨rfl, rfl, rfl, rfl, rfl⟩ rfl rfl rfl rfl rfl (by kernel_rfl) Try.func14 (by kernel_rfl)
    (of_decide_eq_true (by kernel_rfl)) (by unfold Func.isWrapper; first | (rw [if_pos (by decide +kernel)]; kernel_rfl) | (rw [if_neg (by decide +kernel)]; exact ⟨rfl, rfl⟩))
    (fun os started H enc _ F => lifted os started H enc F)
end Go.Proofs.Ytbgifnlaaophcaa.logBurst
