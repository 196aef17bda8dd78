/- For every input of bulk at most 1048576 the law FoldCopies returns true. No other condition. -/
import Derived.Test.YtjbbfiagijjdoaaGreatRows
import Derived.Test.YtjbbfiagijjdoaaGreatGE
set_option linter.unusedSimpArgs false
set_option linter.unusedVariables false
/- For every input of bulk at most 1048576 the law FoldCopies returns true. No other condition. -/
set_option linter.unusedSimpArgs false
set_option linter.unusedVariables false
namespace Go.Proofs.YtjbbfiagijjdoaaGreat.foldCopies
open Go Go.Rw Go.ChangeShapes Go.WideShapes Go.ChangeAt Go.RowKit

set_option maxRecDepth 100000 in
theorem contract (H : Type) (enc : TypeId × Value → H) (W : World) (base : Nat) (args : Array Value) (ds gs : List (DataW H)) (before : List MemPlace)
    (hval : ∀ (j : Nat) t v, Tryz.f16.params[j]? = some t → args[j]? = some v → Value.okWide Tryz.prog W .any base t v)
    (hW : DataW.Whole enc Tryz.prog Tryz.f16.params.toList Rows.foldCopiesSpec.vars false W args.toList ds gs before) (hk : Rows.uptoSmall H (ds ++ gs) = true) :
    Calls Tryz.prog 16 args W fun e W' => ∃ v, e = .returned v ∧ Rows.foldCopiesSpec.post enc Tryz.prog Tryz.f16 false true false false W args v W' := by
  obtain ⟨p, q, hA, hV, _, _, _⟩ := id hW
  rw [Tryz.params16] at hA hval
  obtain ⟨rfl, _⟩ := trodVars_none hV
  obtain ⟨v0, vs0, d0, ds0, p0, q0, hargs, rfl, rfl, h0, r0⟩ := trodAll_cons hA
  obtain ⟨v1, vs1, d1, ds1, p1, q1, rfl, rfl, rfl, h1, r1⟩ := trodAll_cons r0
  obtain ⟨rfl, rfl, rfl⟩ := trodAll_nil r1
  obtain rfl : args = #[v0, v1] := by cases args; simp_all
  have hb := bulk_of hk
  simp only [List.append_nil, Rows.uptoBulkAll] at hb
  obtain ⟨a0, e0, g0⟩ := arg_agg reads_view Tryz.underlying24 (hval 0 _ v0 rfl rfl) h0 (by omega)
  obtain ⟨a1, e1, g1⟩ := arg_one reads_recs (one_cell Tryz.underlying22 (by intro _ h; cases h) (by intro _ _ h; cases h) (hval 1 _ v1 rfl rfl)) h1 (by omega)
  refine law_close laidOut (by rw [Tryz.params16]; intro t ht; simp at ht; rcases ht with rfl | rfl <;> exact ⟨by kernel_rfl, of_decide_eq_true (by kernel_rfl)⟩) (tb := 4) (by kernel_rfl) (by kernel_rfl) rfl hW rfl rfl rfl ?_
  exact (copies12_law a0 a1 (goods_fits g1) (by have := g1.length; omega)).calls (cargs := [v0, v1]) (by kernel_rfl) (reps_two e0 e1)

set_option maxRecDepth 100000 in
theorem lifted (os : Os) (started : os.Started) (H : Type) (enc : TypeId × Value → H) (F : Stop.Interp) :
    ReturnsInHanded {} Tryz.checked os 16 .any ((Rows.OpenSpec.upto Rows.foldCopiesSpec).pre6 enc Tryz.prog Tryz.f16 Rows.foldCopiesUptoRow.domain false) (((Rows.OpenSpec.upto Rows.foldCopiesSpec).at F).post enc Tryz.prog Tryz.f16 false true false false) := by
  refine returnsInHanded_of_cond (C := Tryz.checked) (s := Rows.OpenSpec.upto Rows.foldCopiesSpec) (k := Rows.uptoSmall) rfl own started (by kernel_rfl) Tryz.func16
    (OpenSpec.witness (enc := enc) (C := Tryz.checked) (s := Rows.OpenSpec.upto Rows.foldCopiesSpec) (k := Rows.uptoSmall) rfl false ⟨#[], #[(.agg #[.int .i64 0, .int .i64 0]), (.slice none 0 0)], []⟩ 8 (by kernel_rfl) (by kernel_rfl) (by kernel_rfl)
      (x := ([(.agg [z0, z0]), .nil], [], [])) (by kernel_rfl) rfl (by kernel_rfl)) ?_
  intro W base args ds gs before hval hW _ hk _
  exact contract H enc W base args ds gs before hval hW hk

theorem j0 : jfact Tryz.pinned.checked.prog 16 Tryz.f16 (Rows.OpenSpec.upto Rows.foldCopiesSpec).bare Rows.foldCopiesUptoRow 0 = true := by kernel_rfl
theorem j3 : jfact Tryz.pinned.checked.prog 16 Tryz.f16 (Rows.OpenSpec.upto Rows.foldCopiesSpec).bare Rows.foldCopiesUptoRow 3 = true := by kernel_rfl
theorem j4 : jfact Tryz.pinned.checked.prog 16 Tryz.f16 (Rows.OpenSpec.upto Rows.foldCopiesSpec).bare Rows.foldCopiesUptoRow 4 = true := by kernel_rfl
theorem j5 : jfact Tryz.pinned.checked.prog 16 Tryz.f16 (Rows.OpenSpec.upto Rows.foldCopiesSpec).bare Rows.foldCopiesUptoRow 5 = true := by kernel_rfl
theorem j6 : jfact Tryz.pinned.checked.prog 16 Tryz.f16 (Rows.OpenSpec.upto Rows.foldCopiesSpec).bare Rows.foldCopiesUptoRow 6 = true := by kernel_rfl
theorem j7 : jfact Tryz.pinned.checked.prog 16 Tryz.f16 (Rows.OpenSpec.upto Rows.foldCopiesSpec).bare Rows.foldCopiesUptoRow 7 = true := by kernel_rfl
theorem j8 : jfact Tryz.pinned.checked.prog 16 Tryz.f16 (Rows.OpenSpec.upto Rows.foldCopiesSpec).bare Rows.foldCopiesUptoRow 8 = true := by kernel_rfl
theorem j9 : jfact Tryz.pinned.checked.prog 16 Tryz.f16 (Rows.OpenSpec.upto Rows.foldCopiesSpec).bare Rows.foldCopiesUptoRow 9 = true := by kernel_rfl
theorem j10 : jfact Tryz.pinned.checked.prog 16 Tryz.f16 (Rows.OpenSpec.upto Rows.foldCopiesSpec).bare Rows.foldCopiesUptoRow 10 = true := by kernel_rfl
theorem j11 : jfact Tryz.pinned.checked.prog 16 Tryz.f16 (Rows.OpenSpec.upto Rows.foldCopiesSpec).bare Rows.foldCopiesUptoRow 11 = true := by kernel_rfl
theorem j12 : jfact Tryz.pinned.checked.prog 16 Tryz.f16 (Rows.OpenSpec.upto Rows.foldCopiesSpec).bare Rows.foldCopiesUptoRow 12 = true := by kernel_rfl
theorem j13 : jfact Tryz.pinned.checked.prog 16 Tryz.f16 (Rows.OpenSpec.upto Rows.foldCopiesSpec).bare Rows.foldCopiesUptoRow 13 = true := by kernel_rfl
theorem j14 : jfact Tryz.pinned.checked.prog 16 Tryz.f16 (Rows.OpenSpec.upto Rows.foldCopiesSpec).bare Rows.foldCopiesUptoRow 14 = true := by kernel_rfl
theorem j15 : jfact Tryz.pinned.checked.prog 16 Tryz.f16 (Rows.OpenSpec.upto Rows.foldCopiesSpec).bare Rows.foldCopiesUptoRow 15 = true := by kernel_rfl
theorem j16 : jfact Tryz.pinned.checked.prog 16 Tryz.f16 (Rows.OpenSpec.upto Rows.foldCopiesSpec).bare Rows.foldCopiesUptoRow 16 = true := by kernel_rfl
theorem j17 : jfact Tryz.pinned.checked.prog 16 Tryz.f16 (Rows.OpenSpec.upto Rows.foldCopiesSpec).bare Rows.foldCopiesUptoRow 17 = true := by kernel_rfl
theorem j18 : jfact Tryz.pinned.checked.prog 16 Tryz.f16 (Rows.OpenSpec.upto Rows.foldCopiesSpec).bare Rows.foldCopiesUptoRow 18 = true := by kernel_rfl
theorem j19 : jfact Tryz.pinned.checked.prog 16 Tryz.f16 (Rows.OpenSpec.upto Rows.foldCopiesSpec).bare Rows.foldCopiesUptoRow 19 = true := by kernel_rfl
theorem j20 : jfact Tryz.pinned.checked.prog 16 Tryz.f16 (Rows.OpenSpec.upto Rows.foldCopiesSpec).bare Rows.foldCopiesUptoRow 20 = true := by kernel_rfl
theorem j21 : jfact Tryz.pinned.checked.prog 16 Tryz.f16 (Rows.OpenSpec.upto Rows.foldCopiesSpec).bare Rows.foldCopiesUptoRow 21 = true := by kernel_rfl
theorem j22 : jfact Tryz.pinned.checked.prog 16 Tryz.f16 (Rows.OpenSpec.upto Rows.foldCopiesSpec).bare Rows.foldCopiesUptoRow 22 = true := by kernel_rfl
theorem j23 : jfact Tryz.pinned.checked.prog 16 Tryz.f16 (Rows.OpenSpec.upto Rows.foldCopiesSpec).bare Rows.foldCopiesUptoRow 23 = true := by kernel_rfl
theorem j28 : jfact Tryz.pinned.checked.prog 16 Tryz.f16 (Rows.OpenSpec.upto Rows.foldCopiesSpec).bare Rows.foldCopiesUptoRow 28 = true := by kernel_rfl
theorem j29 : jfact Tryz.pinned.checked.prog 16 Tryz.f16 (Rows.OpenSpec.upto Rows.foldCopiesSpec).bare Rows.foldCopiesUptoRow 29 = true := by kernel_rfl
theorem j30 : jfact Tryz.pinned.checked.prog 16 Tryz.f16 (Rows.OpenSpec.upto Rows.foldCopiesSpec).bare Rows.foldCopiesUptoRow 30 = true := by kernel_rfl
theorem j31 : jfact Tryz.pinned.checked.prog 16 Tryz.f16 (Rows.OpenSpec.upto Rows.foldCopiesSpec).bare Rows.foldCopiesUptoRow 31 = true := by kernel_rfl
theorem jn : Tryz.pinned.checked.prog.funcNamed Rows.foldCopiesUptoRow.func = some 16 := by kernel_rfl
theorem ji : Tryz.f16.isInstance Tryz.pinned.checked.prog Rows.foldCopiesUptoRow.origin Rows.foldCopiesUptoRow.targs := of_decide_eq_true (by kernel_rfl)
theorem jw : Tryz.f16.isWrapper Tryz.pinned.checked.prog Rows.foldCopiesUptoRow.wrapper Rows.foldCopiesUptoRow.mainSum := by unfold Func.isWrapper; first | (rw [if_pos (by decide +kernel)]; kernel_rfl) | (rw [if_neg (by decide +kernel)]; exact ⟨rfl, rfl⟩)
theorem jj : joinedFacts Tryz.pinned.checked.prog 16 Tryz.f16 (Rows.OpenSpec.upto Rows.foldCopiesSpec).bare Rows.foldCopiesUptoRow = true :=
  joinedFacts_of j0 (jfact_1 shared.j1) (jfact_2 shared.j2) j3 j4 j5 j6 j7 j8 j9 j10 j11 j12 j13 j14 j15 j16 j17 j18 j19 j20 j21 j22 j23 (jfact_24 shared.j24) (jfact_25 shared.j25) (jfact_26 shared.j26 rfl) (jfact_27 shared.j27 rfl) j28 j29 j30 j31
theorem proved : Rows.FoldCopiesUptoSaid :=
  OpenClaim.holds_of_cond 16 Tryz.f16 rfl rfl rfl rfl rfl rfl rfl ⟨rfl, rfl, rfl, rfl, rfl⟩ rfl rfl rfl rfl rfl jn Tryz.func16 jj ji jw
    (fun os started H enc _ F => lifted os started H enc F)
end Go.Proofs.YtjbbfiagijjdoaaGreat.foldCopies
