/- Parts of the proof: what is used by the law. No condition. -/
import Derived.Test.YtbgifnlaaophcaaRows
import Derived.Test.YtbgifnlaaophcaaGB
set_option linter.unusedSimpArgs false
set_option linter.unusedVariables false
/- The law MsgNames, walked. No condition. -/
set_option linter.unusedSimpArgs false
set_option linter.unusedVariables false
set_option maxRecDepth 10000
namespace Go.Proofs.Ytbgifnlaaophcaa
open Go Go.Rw Go.Proofs
-- a goal is never to be run by the elaborator
attribute [local irreducible] awp aops aop aopsE aeff

def m0 : PMsg := ⟨2, 1, 2, 3, 4, ⟨7, 0⟩, [], []⟩
def a0 : PMsg := ⟨6, 2, 1, 3, 4, ⟨7, 0⟩, [], []⟩
theorem m0_right : rightM m0 = true := by decide +kernel
theorem m0_read : readF bitsF (frameF bitsF m0) = some m0 := by decide +kernel
theorem m0_burst : readF bitsF (burstF (frameF bitsF m0) 9 1#32) = none := by decide +kernel
theorem m0_same : sameM m0 m0 = true := by decide +kernel
theorem m0_answers : answersM m0 a0 = true := by decide +kernel
theorem m0_len : (frameF bitsF m0).length ≤ 1000 := by decide +kernel
attribute [local irreducible] frameF readF burstF

theorem alive_spec : ASpec Try.prog 18 [] (· = .v (.bool true)) := by
  refine ASpec.of_awp Try.func18 (by kernel_rfl) rfl (by rw [Try.results18]) Try.ntmps18 ?_
  simp -implicitDefEqProofs
  refine allocK.intro (fun b hb => ?_)
  simp -implicitDefEqProofs
  have hl := m0_len
  refine CallK.with (msg_frame m0 (by intro x hx; cases hx)) (by simp [m0, eM]) ?_
  simp -implicitDefEqProofs [m0_right, frameA]
  refine CallK.eq (msg_read _ (by omega)) ?_
  rw [m0_read]
  simp -implicitDefEqProofs [readA, eM]
  refine allocK.intro (fun b2 hb2 => ?_)
  have hbb : ¬ b = b2 := by rintro rfl; simp at hb2
  have hbb' : ¬ b2 = b := fun h => hbb h.symm
  simp -implicitDefEqProofs [hbb, hbb']
  refine CallK.of (crc_burst _ 9 1#32 (by omega) (by omega)) ?_
  rintro _ ⟨tag, _, rfl⟩
  simp -implicitDefEqProofs
  refine CallK.eq (msg_read _ (by rw [burstF_length]; omega)) ?_
  rw [m0_burst]
  simp -implicitDefEqProofs [readA, eM]
  refine allocK.intro (fun b3 hb3 => ?_)
  have h1 : ¬ b3 = b := by rintro rfl; simp [hbb] at hb3
  have h1' : ¬ b = b3 := fun h => h1 h.symm
  have h2 : ¬ b3 = b2 := by rintro rfl; simp at hb3
  have h2' : ¬ b2 = b3 := fun h => h2 h.symm
  simp -implicitDefEqProofs [hbb, hbb', h1, h1', h2, h2']
  refine CallK.with (msg_same m0 m0) (by simp [m0, eM]) ?_
  simp -implicitDefEqProofs [m0_same, hbb, hbb', h1, h1', h2, h2']
  refine CallK.with (msg_answers m0 a0) (by simp [m0, a0, eM]) ?_
  simp -implicitDefEqProofs [m0_answers]

theorem names_spec : ASpec Try.prog 3 [] (· = .v (.bool true)) := by
  refine ASpec.of_awp Try.func3 (by kernel_rfl) rfl (by rw [Try.results3]) Try.ntmps3 ?_
  simp -implicitDefEqProofs
  refine CallK.eq alive_spec ?_
  simp -implicitDefEqProofs
  have hr : rightM ⟨0, 0, 0, 0, 0, ⟨0, 0⟩, [], []⟩ = false := by decide +kernel
  refine CallK.with (msg_right ⟨0, 0, 0, 0, 0, ⟨0, 0⟩, [], []⟩) (by simp [eM]) ?_
  simp -implicitDefEqProofs [hr]
end Go.Proofs.Ytbgifnlaaophcaa

/- The law MsgOne, walked. No condition. -/
set_option linter.unusedSimpArgs false
set_option linter.unusedVariables false
set_option maxRecDepth 10000
namespace Go.Proofs.Ytbgifnlaaophcaa
open Go Go.Rw Go.Proofs
-- a goal is never to be run by the elaborator
attribute [local irreducible] awp aops aop aopsE aeff

def cnt1 (q : PMsg) (K F : Int) : Int := if q.kind ≤ 4 ∧ (kindN q.kind < K ∨ (kindN q.kind = K ∧ q.to < F)) then 1 else 0
def prob (q : PMsg) (K F : Int) : PMsg := ⟨K, F, q.frm, q.inc, q.seq, q.view, [], []⟩
theorem kindN_ge (k : Int) : 5 ≤ kindN k ∧ kindN k ≤ 7 := by
  unfold kindN; split
  · omega
  · split <;> omega
theorem prob_answers (q : PMsg) (hq : RightM q) (K F : Int) : answersM q (prob q K F) = decide (q.kind ≤ 4 ∧ K = kindN q.kind ∧ F = q.to) := by
  have := hq.kind
  have h0 : 0 ≤ q.kind := this.1
  simp only [answersM, prob, decide_true, Bool.and_true, h0]
  by_cases h1 : q.kind ≤ 4 <;> by_cases h2 : K = kindN q.kind <;> by_cases h3 : F = q.to <;> simp [h1, h2, h3]
theorem prob_back (q : PMsg) (K F : Int) (hK : 5 ≤ K) : answersM (prob q K F) q = false := by
  have : ¬ K ≤ 4 := by omega
  simp [answersM, prob, this]
theorem cnt1_step (q : PMsg) (hq : RightM q) (K F : Int) : cnt1 q K (F + 1) = if answersM q (prob q K F) = true then cnt1 q K F + 1 else cnt1 q K F := by
  rw [prob_answers q hq]
  unfold cnt1
  by_cases h1 : q.kind ≤ 4
  · simp only [h1, true_and]
    by_cases h2 : K = kindN q.kind
    · subst h2
      by_cases h3 : F = q.to
      · subst h3; simp; omega
      · have e1 : (q.to < F + 1) ↔ q.to < F := by omega
        simp [h3, e1]
    · have h2' : ¬ kindN q.kind = K := fun h => h2 h.symm
      simp [h2, h2']
  · simp [h1]
theorem cnt1_row (q : PMsg) (hq : RightM q) (K : Int) : cnt1 q K 6 = cnt1 q (K + 1) 0 := by
  have := hq.to
  unfold cnt1
  by_cases h1 : q.kind ≤ 4
  · have e1 : (kindN q.kind < K ∨ kindN q.kind = K ∧ q.to < 6) ↔ (kindN q.kind < K + 1 ∨ kindN q.kind = K + 1 ∧ q.to < 0) := by omega
    simp only [h1, true_and, e1]
  · simp [h1]
theorem cnt1_end (q : PMsg) (hq : RightM q) : cnt1 q 8 0 = if q.kind ≤ 4 then 1 else 0 := by
  have := kindN_ge q.kind
  unfold cnt1
  by_cases h1 : q.kind ≤ 4
  · have e1 : kindN q.kind < 8 := by omega
    simp [h1, e1]
  · simp [h1]
theorem cnt1_le (q : PMsg) (K F : Int) : 0 ≤ cnt1 q K F ∧ cnt1 q K F ≤ 1 := by
  unfold cnt1; split <;> omega

def OneI (q a : PMsg) (b b2 : Nat) (t : Nat → AV) (h : Nat → Option (List AV)) : Prop := ∃ K : Nat, t 2 = .ptr b 0 ∧ t 3 = .ptr b2 0 ∧ t 5 = eI (cnt1 q K 0) ∧ t 6 = eI K ∧ K ≤ 8 ∧ h b = some (eM q) ∧ h b2 = some (eM a)
def OneJ (q a : PMsg) (b b2 K : Nat) (t : Nat → AV) (h : Nat → Option (List AV)) : Prop := ∃ F : Nat, t 2 = .ptr b 0 ∧ t 3 = .ptr b2 0 ∧ t 5 = eI (cnt1 q K F) ∧ t 6 = eI K ∧ t 7 = eI F ∧ F ≤ 6 ∧ h b = some (eM q) ∧ h b2 = some (eM a)
def OneE (q a : PMsg) (b b2 : Nat) (t : Nat → AV) (h : Nat → Option (List AV)) : Prop := t 2 = .ptr b 0 ∧ t 3 = .ptr b2 0 ∧ t 5 = eI (if q.kind ≤ 4 then 1 else 0) ∧ h b = some (eM q) ∧ h b2 = some (eM a)

theorem one_spec (q a : PMsg) : ASpec Try.prog 6 [.agg (eM q), .agg (eM a)] (· = .v (.bool true)) := by
  refine ASpec.of_awp Try.func6 (by kernel_rfl) rfl (by rw [Try.results6]) Try.ntmps6 ?_
  simp -implicitDefEqProofs [eM]
  refine allocK.intro (fun b hb => ?_)
  simp -implicitDefEqProofs
  refine allocK.intro (fun b2 hb2 => ?_)
  have hbb : ¬ b = b2 := by rintro rfl; simp at hb2
  have hbb' : ¬ b2 = b := fun h => hbb h.symm
  simp -implicitDefEqProofs [hbb, hbb']
  refine CallK.eq alive_spec ?_
  simp -implicitDefEqProofs [hbb, hbb']
  refine CallK.with (msg_right q) (by simp [eM]) ?_
  cases hr : rightM q
  · simp -implicitDefEqProofs
  have R := rightM_of hr
  simp -implicitDefEqProofs
  refine loopK.post (OneI q a b b2) (fun t => 8 - natOf (t 6)) (OneE q a b b2) ?_ ?_ ?_
  · refine ⟨0, by simp, by simp, ?_, by simp, by omega, by simp [hbb, hbb', eM], by simp [hbb, hbb', eM]⟩
    have : cnt1 q 0 0 = 0 := by
      have := kindN_ge q.kind
      have := R.to
      unfold cnt1
      rw [if_neg (by omega)]
    simp [this]
  · rintro t hh ⟨K, g2, g3, g5, g6, hK, gb, gb2⟩
    simp -implicitDefEqProofs [g6]
    refine branch_dec (fun hlt => ?_) (fun hlt => ?_)
    · have hlt : K < 8 := by omega
      have hK1 : IntKind.i64.wrap ((K : Int) + 1) = (K : Int) + 1 := w64 (by omega) (by omega)
      simp -implicitDefEqProofs
      refine loopK.intro (OneJ q a b b2 K) (fun t => 6 - natOf (t 7)) ?_ ?_
      · exact ⟨0, by simp [g2], by simp [g3], by simp [g5], by simp [g6], by simp, by omega, gb, gb2⟩
      clear g2 g3 g5 gb gb2
      rintro t2 hh2 ⟨F, g2, g3, g5, g6', g7, hF, gb, gb2⟩
      simp -implicitDefEqProofs [g7]
      refine branch_dec (fun hlt2 => ?_) (fun hlt2 => ?_)
      · have hlt2 : F < 6 := by omega
        have hF1 : IntKind.i64.wrap ((F : Int) + 1) = (F : Int) + 1 := w64 (by omega) (by omega)
        have hcl := cnt1_le q K F
        have hc1 : IntKind.i64.wrap (cnt1 q K F + 1) = cnt1 q K F + 1 := w64 (by omega) (by omega)
        simp -implicitDefEqProofs [g2, g6', g7, gb, eM]
        refine allocK.intro (fun b3 hb3 => ?_)
        have h1 : ¬ b3 = b := by rintro rfl; rw [gb] at hb3; simp at hb3
        have h1' : ¬ b = b3 := fun h => h1 h.symm
        have h2 : ¬ b3 = b2 := by rintro rfl; rw [gb2] at hb3; simp at hb3
        have h2' : ¬ b2 = b3 := fun h => h2 h.symm
        simp -implicitDefEqProofs [g2, gb, eM, h1, h1', h2, h2']
        refine CallK.with (msg_answers q (prob q K F)) (by simp [eM, prob]) ?_
        have hst := cnt1_step q R K F
        cases hans : answersM q (prob q K F)
        · rw [if_neg (by simp [hans])] at hst
          simp -implicitDefEqProofs [g7, hF1]
          exact ⟨⟨F + 1, by simp [g2], by simp [g3], by simp [g5, hst], by simp [g6'], by simp, by omega, by simp [h1', gb], by simp [h2', gb2]⟩, by omega⟩
        · rw [if_pos hans] at hst
          rw [prob_answers q R] at hans
          have hans := of_decide_eq_true hans
          have hkk := kindN_ge q.kind
          have e1 : (F : Int) = q.to := hans.2.2
          have e2 : ¬ (K : Int) < 5 := by omega
          simp -implicitDefEqProofs [g2, g5, g6', g7, gb, eM, h1, h1', h2, h2', hc1, e1, e2]
          refine CallK.with (msg_answers (prob q K F) q) (by simp [eM, prob, e1]) ?_
          rw [prob_back q K F (by omega)]
          have hF1' : IntKind.i64.wrap (q.to + 1) = q.to + 1 := by rw [← e1]; exact hF1
          simp -implicitDefEqProofs [g7, e1, hF1', e2]
          refine ⟨⟨F + 1, by simp [g2], by simp [g3], by simp [hst]; rw [← e1]; exact hc1, by simp [g6'], by simp [e1], by omega, by simp [h1', gb], by simp [h2', gb2]⟩, by omega⟩
      · have hF' : F = 6 := by omega
        subst hF'
        have hrow := cnt1_row q R K
        simp -implicitDefEqProofs [g6', hK1]
        exact ⟨⟨K + 1, by simp [g2], by simp [g3], by simp [g5]; exact hrow, by simp, by omega, gb, gb2⟩, by simp [g6]; omega⟩
    · have hK' : K = 8 := by omega
      subst hK'
      simp -implicitDefEqProofs
      refine ⟨g2, g3, ?_, gb, gb2⟩
      have := cnt1_end q R
      simp [g5]
      exact this
  rintro t hh ⟨g2, g3, g5, gb, gb2⟩
  simp -implicitDefEqProofs [g2, g3, gb, gb2, eM]
  refine CallK.with (msg_answers q a) (by simp [eM]) ?_
  have hk0 := R.kind
  cases hans : answersM q a
  · by_cases k4 : q.kind ≤ 4
    · have k5 : q.kind < 5 := by omega
      by_cases e1 : a.inc = q.inc
      · by_cases e2 : a.seq = q.seq
        · by_cases e3 : a.view.add = q.view.add
          · by_cases e4 : a.view.del = q.view.del
            · by_cases e5 : a.frm = q.to
              · by_cases e6 : a.to = q.frm
                · have hk : ¬ a.kind = kindN q.kind := by
                    intro hk
                    simp [answersM, hk0.1, k4, e1, e2, e3, e4, e5, e6, hk] at hans
                  by_cases e7 : a.kind = 5
                  · have e8 : ¬ q.kind = 0 := by
                      intro h8
                      rw [e7, h8] at hk
                      exact hk rfl
                    simp -implicitDefEqProofs [g2, g3, g5, gb, gb2, eM, e1, e2, e3, e4, e5, e6, e7, e8, k4]
                  · simp -implicitDefEqProofs [g2, g3, g5, gb, gb2, eM, e1, e2, e3, e4, e5, e6, e7, k4]
                · simp -implicitDefEqProofs [g2, g3, g5, gb, gb2, eM, e1, e2, e3, e4, e5, e6, k4, k5]
              · simp -implicitDefEqProofs [g2, g3, g5, gb, gb2, eM, e1, e2, e3, e4, e5, k4, k5]
            · have e4' : (a.view.del == q.view.del) = false := by simpa using e4
              simp -implicitDefEqProofs [g2, g3, g5, gb, gb2, eM, e1, e2, e3, e4, e4', k4, k5]
          · have e3' : (a.view.add == q.view.add) = false := by simpa using e3
            simp -implicitDefEqProofs [g2, g3, g5, gb, gb2, eM, e1, e2, e3, e3', k4, k5]
        · simp -implicitDefEqProofs [g2, g3, g5, gb, gb2, eM, e1, e2, k4, k5]
      · simp -implicitDefEqProofs [g2, g3, g5, gb, gb2, eM, e1, k4, k5]
    · have k5 : ¬ q.kind < 5 := by omega
      by_cases e1 : a.inc = q.inc
      · by_cases e2 : a.seq = q.seq
        · by_cases e3 : a.view.add = q.view.add
          · by_cases e4 : a.view.del = q.view.del
            · by_cases e5 : a.frm = q.to
              · by_cases e6 : a.to = q.frm
                · simp -implicitDefEqProofs [g2, g3, g5, gb, gb2, eM, e1, e2, e3, e4, e5, e6, k4, k5]
                · simp -implicitDefEqProofs [g2, g3, g5, gb, gb2, eM, e1, e2, e3, e4, e5, e6, k4, k5]
              · simp -implicitDefEqProofs [g2, g3, g5, gb, gb2, eM, e1, e2, e3, e4, e5, k4, k5]
            · have e4' : (a.view.del == q.view.del) = false := by simpa using e4
              simp -implicitDefEqProofs [g2, g3, g5, gb, gb2, eM, e1, e2, e3, e4, e4', k4, k5]
          · have e3' : (a.view.add == q.view.add) = false := by simpa using e3
            simp -implicitDefEqProofs [g2, g3, g5, gb, gb2, eM, e1, e2, e3, e3', k4, k5]
        · simp -implicitDefEqProofs [g2, g3, g5, gb, gb2, eM, e1, e2, k4, k5]
      · simp -implicitDefEqProofs [g2, g3, g5, gb, gb2, eM, e1, k4, k5]
  · have hk4 : q.kind ≤ 4 := by
      by_cases h : q.kind ≤ 4
      · exact h
      · simp [answersM, h] at hans
    have k5 : q.kind < 5 := by omega
    simp -implicitDefEqProofs [g2, g5, gb, eM, hk4, k5]
end Go.Proofs.Ytbgifnlaaophcaa

/- The law MsgShort, walked. No condition. -/
set_option linter.unusedSimpArgs false
set_option linter.unusedVariables false
set_option maxRecDepth 10000
namespace Go.Proofs.Ytbgifnlaaophcaa
open Go Go.Rw Go.Proofs
-- a goal is never to be run by the elaborator
attribute [local irreducible] awp aops aop aopsE aeff

def withTo (m : PMsg) (to : Int) : PMsg := ⟨m.kind, m.frm, to, m.inc, m.seq, m.view, m.cells, m.book⟩
theorem right_withTo {m : PMsg} (hr : rightM m = true) (to : Int) : rightM (withTo m to) = betweenB to 0 5 := by
  simp only [rightM, Bool.and_eq_true] at hr
  obtain ⟨⟨⟨⟨⟨⟨⟨⟨⟨q1, q2⟩, q3⟩, q4⟩, q5⟩, q6⟩, q7⟩, q8⟩, q9⟩, q10⟩ := hr
  have e : rightM (withTo m to) = (betweenB m.kind 0 7 && betweenB m.frm 0 5 && betweenB to 0 5 && betweenB m.inc 1 1000000 && betweenB m.seq 1 1000000 &&
    (decide (m.cells = []) || decide (m.kind = 1) || decide (m.kind = 5)) && (decide (m.book = []) || decide (m.kind = 3) || decide (m.kind = 6)) && rightV m.view && checkC (-1) m.cells && checkE (-1) m.book) := rfl
  rw [e, q1, q2, q4, q5, q6, q7, q8, q9, q10]
  simp
theorem bitsF_idem (b : Nat) : bitsF (bitsF b) = bitsF b := cleanB_idem _ b
theorem fit_bits {m : PMsg} (hf : fitM m) : ∀ x ∈ m.book, bitsF x.value < 18446744073709551616 := fun x hx => bitsF_lt (hf x hx)
theorem sameEs_clean : ∀ l : List PEntry, sameEs (l.map (cleanE bitsF)) l = true
  | [] => rfl
  | x :: l => by
    have h := sameE_clean x bitsF bitsF_idem
    rw [List.map_cons, sameEs, sameEs_clean l, Bool.and_true]
    exact h
theorem sameM_clean (m : PMsg) : sameM (cleanM bitsF m) m = true := by
  simp [sameM, headM, cleanM, sameEs_clean]
theorem read_frame2 {m : PMsg} (hr : rightM m = true) (hf : fitM m) : readF bitsF (frameF bitsF m) = some (cleanM bitsF m) := read_frame bitsF_idem hr (fit_bits hf)
theorem frame_to {m : PMsg} (hr : rightM m = true) (hf : fitM m) {to : Int} (ht : betweenB to 0 5 = true) : (frameF bitsF m = frameF bitsF (withTo m to)) ↔ to = m.to := by
  constructor
  · intro h
    have a := read_frame2 hr hf
    have b := read_frame2 (m := withTo m to) (by rw [right_withTo hr]; exact ht) hf
    rw [h, b] at a
    have := congrArg PMsg.to (Option.some.inj a)
    exact this
  · rintro rfl
    rfl
attribute [local irreducible] frameF readF rightM sameM

theorem short_spec (m : PMsg) (to : Int) (hf : fitM m) (h1 : m.cells.length ≤ 1048576) (h2 : m.book.length ≤ 1048576) : ASpec Try.prog 9 [.agg (eM m), eI to] (· = .v (.bool true)) := by
  refine ASpec.of_awp Try.func9 (by kernel_rfl) rfl (by rw [Try.results9]) Try.ntmps9 ?_
  simp -implicitDefEqProofs [eM]
  refine allocK.intro (fun b hb => ?_)
  simp -implicitDefEqProofs
  refine CallK.eq alive_spec ?_
  simp -implicitDefEqProofs
  refine CallK.with (msg_frame m hf) (by simp [eM]) ?_
  cases hr : rightM m
  · simp -implicitDefEqProofs [frameA]
  have hl := len_frame hr (fit_bits hf)
  have w1 : IntKind.i64.wrap (7 * (m.cells.length : Int)) = 7 * m.cells.length := w64 (by omega) (by omega)
  have w2 : IntKind.i64.wrap (40 + 7 * (m.cells.length : Int)) = 40 + 7 * m.cells.length := w64 (by omega) (by omega)
  have w3 : IntKind.i64.wrap (19 * (m.book.length : Int)) = 19 * m.book.length := w64 (by omega) (by omega)
  have w4 : IntKind.i64.wrap (40 + 7 * (m.cells.length : Int) + 19 * m.book.length) = 40 + 7 * m.cells.length + 19 * m.book.length := w64 (by omega) (by omega)
  have n1 : ¬ ((frameF bitsF m).length : Int) < 12 := by omega
  have n2 : ¬ (40 + 7 * (m.cells.length : Int) + 19 * m.book.length < ((frameF bitsF m).length : Int)) := by omega
  simp -implicitDefEqProofs [frameA, w1, w2, w3, w4, n1, n2]
  have hcp := msg_copy m (by omega) (by omega)
  intro _ _ _
  refine CallK.with hcp (by simp [eM]) ?_
  simp -implicitDefEqProofs [eM]
  refine allocK.intro (fun b2 hb2 => ?_)
  have hbb : ¬ b = b2 := by rintro rfl; simp at hb2
  have hbb' : ¬ b2 = b := fun h => hbb h.symm
  simp -implicitDefEqProofs [hbb, hbb']
  refine CallK.with (msg_frame (withTo m to) hf) (by simp [eM, withTo]) ?_
  rw [right_withTo hr]
  cases ht : betweenB to 0 5
  · have ht' : to < 0 ∨ 5 < to := by
      simp only [betweenB, decide_eq_false_iff_not] at ht
      omega
    by_cases h0 : to < 0
    · simp -implicitDefEqProofs [frameA, h0]
    · have h5 : 5 < to := by omega
      simp -implicitDefEqProofs [frameA, h0, h5]
  have ht' : 0 ≤ to ∧ to ≤ 5 := by simpa [betweenB] using ht
  have n3 : ¬ to < 0 := by omega
  have n4 : ¬ 5 < to := by omega
  have hrt : rightM (withTo m to) = true := by rw [right_withTo hr]; exact ht
  have hl2 := len_frame hrt (fit_bits (m := withTo m to) hf)
  have hc2 : (withTo m to).cells = m.cells := rfl
  have hb2' : (withTo m to).book = m.book := rfl
  rw [hc2, hb2'] at hl2
  simp -implicitDefEqProofs [frameA, n3, n4]
  refine CallK.eq (msg_read _ (by omega)) ?_
  rw [read_frame2 hrt hf]
  simp -implicitDefEqProofs [readA, eM]
  refine allocK.intro (fun b3 hb3 => ?_)
  have h1 : ¬ b3 = b := by rintro rfl; simp [hbb] at hb3
  have h1' : ¬ b = b3 := fun h => h1 h.symm
  have h2 : ¬ b3 = b2 := by rintro rfl; simp at hb3
  have h2' : ¬ b2 = b3 := fun h => h2 h.symm
  simp -implicitDefEqProofs [hbb, hbb', h1, h1', h2, h2']
  refine CallK.with (msg_same (cleanM bitsF m) m) (by simp [eM, cleanM, withTo]) ?_
  rw [sameM_clean]
  have hfr := frame_to hr hf ht
  by_cases he : to = m.to
  · have hfe := hfr.2 he
    simp -implicitDefEqProofs [hbb, hbb', h1, h1', h2, h2', hfe, he]
  · have hfe : ¬ frameF bitsF m = frameF bitsF (withTo m to) := fun h => he (hfr.1 h)
    simp -implicitDefEqProofs [hbb, hbb', h1, h1', h2, h2', hfe, he]
end Go.Proofs.Ytbgifnlaaophcaa

/- The law MsgBack, walked. No condition. -/
set_option linter.unusedSimpArgs false
set_option linter.unusedVariables false
set_option maxRecDepth 10000
namespace Go.Proofs.Ytbgifnlaaophcaa
open Go Go.Rw Go.Proofs
-- a goal is never to be run by the elaborator
attribute [local irreducible] awp aops aop aopsE aeff

def zM : PMsg := ⟨0, 0, 0, 0, 0, ⟨0, 0⟩, [], []⟩
theorem same_zero : sameM zM zM = true := by decide +kernel
theorem burst_read (m : PMsg) (a : Int) (k : BitVec 32) : readF bitsF (burstF (frameF bitsF m) a k) = if burstF (frameF bitsF m) a k = frameF bitsF m then readF bitsF (frameF bitsF m) else none := by
  by_cases h : burstF (frameF bitsF m) a k = frameF bitsF m
  · rw [if_pos h, h]
  · rw [if_neg h]
    unfold readF
    cases ho : openF (burstF (frameF bitsF m) a k) with
    | none => rfl
    | some l2 => exact absurd (burst_found (forms (numsM bitsF m)) a k l2 ho) h
attribute [local irreducible] frameF readF rightM sameM burstF

theorem back_spec (m : PMsg) (a : Int) (k : BitVec 32) (hf : fitM m) (h1 : m.cells.length ≤ 1048576) (h2 : m.book.length ≤ 1048576) (ha : a ≤ 9223372036854775807) : ASpec Try.prog 5 [.agg (eM m), eI a, .v (.int .u32 (n32 k))] (· = .v (.bool true)) := by
  refine ASpec.of_awp Try.func5 (by kernel_rfl) rfl (by rw [Try.results5]) Try.ntmps5 ?_
  simp -implicitDefEqProofs [eM]
  refine allocK.intro (fun b hb => ?_)
  simp -implicitDefEqProofs
  refine CallK.eq alive_spec ?_
  simp -implicitDefEqProofs
  refine CallK.with (msg_frame m hf) (by simp [eM]) ?_
  cases hr : rightM m
  · simp -implicitDefEqProofs [frameA]
    refine CallK.with (msg_right m) (by simp [eM]) ?_
    rw [hr]
    simp -implicitDefEqProofs
  have hl := len_frame hr (fit_bits hf)
  simp -implicitDefEqProofs [frameA]
  refine CallK.eq (msg_read _ (by omega)) ?_
  rw [read_frame2 hr hf]
  simp -implicitDefEqProofs [readA, eM]
  refine allocK.intro (fun b2 hb2 => ?_)
  have hbb : ¬ b = b2 := by rintro rfl; simp at hb2
  have hbb' : ¬ b2 = b := fun h => hbb h.symm
  simp -implicitDefEqProofs [hbb, hbb']
  refine CallK.with (msg_same (cleanM bitsF m) m) (by simp [eM, cleanM]) ?_
  rw [sameM_clean]
  simp -implicitDefEqProofs
  refine CallK.of (crc_burst _ a k (by omega) ha) ?_
  rintro _ ⟨tag, _, rfl⟩
  simp -implicitDefEqProofs
  refine CallK.eq (msg_read _ (by rw [burstF_length]; omega)) ?_
  rw [burst_read]
  by_cases hx : burstF (frameF bitsF m) a k = frameF bitsF m
  · rw [if_pos hx, read_frame2 hr hf]
    simp -implicitDefEqProofs [readA, eM]
    refine allocK.intro (fun b3 hb3 => ?_)
    simp -implicitDefEqProofs [hx]
  · rw [if_neg hx]
    simp -implicitDefEqProofs [readA, eM]
    refine allocK.intro (fun b3 hb3 => ?_)
    simp -implicitDefEqProofs [hx]
    refine CallK.with (msg_same zM zM) (by simp [eM, zM]) ?_
    rw [same_zero]
    simp -implicitDefEqProofs
end Go.Proofs.Ytbgifnlaaophcaa

/- Contracts: numbers' bits, told otherwise. No condition. -/
set_option linter.unusedSimpArgs false
set_option linter.unusedVariables false
set_option maxRecDepth 10000
namespace Go.Proofs.Ytbgifnlaaophcaa
open Go Go.Rw Go.Proofs
-- a goal is never to be run by the elaborator
attribute [local irreducible] awp aops aop aopsE aeff

theorem and_u64 (a b : Nat) (ha : a < 18446744073709551616) (hb : b < 18446744073709551616) : bitOp .and .u64 (a : Int) (b : Int) = ((a &&& b : Nat) : Int) := by
  have h1 : bitOp .and .u64 (a : Int) (b : Int) = IntKind.u64.wrap ((BitVec.ofInt 64 (a : Int) &&& BitVec.ofInt 64 (b : Int)).toNat : Int) := rfl
  have h2 : a &&& b ≤ a := Nat.and_le_left
  rw [h1, BitVec.toNat_and]
  have e1 : (BitVec.ofInt 64 (a : Int)).toNat = a := by simp; omega
  have e2 : (BitVec.ofInt 64 (b : Int)).toNat = b := by simp; omega
  rw [e1, e2]
  exact wu64 (by omega) (by omega)
theorem mask_u64 (a k b : Nat) (ha : a < 18446744073709551616) (hk : b = 2 ^ k - 1) (hb : b < 18446744073709551616) : bitOp .and .u64 (a : Int) (b : Int) = ((a % 2 ^ k : Nat) : Int) := by
  rw [and_u64 a b ha hb, hk, Nat.and_two_pow_sub_one_eq_mod]
theorem shr_u64 (a k : Nat) (hk : k ≤ 64) : Int.fdiv (a : Int) (2 ^ min (k : Int).toNat IntKind.u64.bits) = ((a / 2 ^ k : Nat) : Int) := by
  have h1 : min (k : Int).toNat IntKind.u64.bits = k := by simp [IntKind.bits]; omega
  rw [h1, Int.fdiv_eq_ediv_of_nonneg _ (by exact_mod_cast Nat.zero_le _)]
  norm_cast
theorem parts_spec (b : Nat) (h : b < 18446744073709551616) : ASpec Try.prog 130 [.v (.int .u64 b)] (· = .tup [.v (.int .u64 (b / 2 ^ 63 : Nat)), .v (.int .u64 (b / 2 ^ 52 % 2 ^ 11 : Nat)), .v (.int .u64 (b % 2 ^ 52 : Nat))]) := by
  refine ASpec.of_awp Try.func130 (by kernel_rfl) rfl (by rw [Try.results130]) Try.ntmps130 ?_
  have s1 : Int.fdiv (b : Int) (2 ^ min 63 IntKind.u64.bits) = ((b / 2 ^ 63 : Nat) : Int) := shr_u64 b 63 (by omega)
  have s2 : Int.fdiv (b : Int) (2 ^ min 52 IntKind.u64.bits) = ((b / 2 ^ 52 : Nat) : Int) := shr_u64 b 52 (by omega)
  have s3 : bitOp .and .u64 ((b / 2 ^ 52 : Nat) : Int) 2047 = ((b / 2 ^ 52 % 2 ^ 11 : Nat) : Int) := mask_u64 (b / 2 ^ 52) 11 2047 (by omega) (by decide) (by omega)
  have s4 : bitOp .and .u64 (b : Int) 4503599627370495 = ((b % 2 ^ 52 : Nat) : Int) := mask_u64 b 52 4503599627370495 h (by decide) (by omega)
  simp -implicitDefEqProofs [aNum_shr, s4]
  refine ⟨?_, ?_⟩
  · rw [s1]; omega
  · rw [s2, s3]; omega
theorem nan_parts (b : Nat) : (b / 2 ^ 52 % 2 ^ 11 = 2047 ∧ b % 2 ^ 52 ≠ 0) ↔ nanB b = true := by
  unfold nanB
  rw [decide_eq_true_iff]
  omega
theorem clean_spec (b : Nat) (h : b < 18446744073709551616) : ASpec Try.prog 122 [.v (.int .u64 b)] (· = .v (.int .u64 (bitsF b))) := by
  refine ASpec.of_awp Try.func122 (by kernel_rfl) rfl (by rw [Try.results122]) Try.ntmps122 ?_
  simp -implicitDefEqProofs
  refine CallK.eq (parts_spec b h) ?_
  have hn := nan_parts b
  generalize hE : b / 2 ^ 52 % 2 ^ 11 = E at hn
  generalize hF : b % 2 ^ 52 = F at hn
  by_cases hE7 : (E : Int) = 2047
  · by_cases hF0 : (F : Int) = 0
    · have : nanB b = false := by
        cases hb : nanB b
        · rfl
        · have := hn.2 hb; omega
      simp -implicitDefEqProofs [hE7, hF0, bitsF, cleanB, this]
    · have : nanB b = true := hn.1 ⟨by omega, by omega⟩
      have hF0' : ¬ F = 0 := by omega
      simp -implicitDefEqProofs [hE7, hF0, hF0', bitsF, cleanB, this]
  · have : nanB b = false := by
      cases hb : nanB b
      · rfl
      · have := hn.2 hb; omega
    simp -implicitDefEqProofs [hE7, bitsF, cleanB, this]
theorem bits1_spec (b : Nat) (h : b < 18446744073709551616) : ASpec Try.prog 84 [eF b] (· = .v (.int .u64 (bitsF b))) := by
  refine ASpec.of_awp Try.func84 (by kernel_rfl) rfl (by rw [Try.results84]) Try.ntmps84 ?_
  simp -implicitDefEqProofs
  refine CallK.eq (f64bits_spec b) ?_
  simp -implicitDefEqProofs
  refine CallK.eq (clean_spec b h) ?_
  simp -implicitDefEqProofs
end Go.Proofs.Ytbgifnlaaophcaa

/- Contracts: forms of numbers, told otherwise. No condition. -/
set_option linter.unusedSimpArgs false
set_option linter.unusedVariables false
set_option maxRecDepth 10000
namespace Go.Proofs.Ytbgifnlaaophcaa
open Go Go.Rw Go.Proofs
-- a goal is never to be run by the elaborator
attribute [local irreducible] awp aops aop aopsE aeff

theorem sizeN_zero : sizeN 0 = 0 := by decide
theorem sizeN_step {n : Nat} (h0 : 0 < n) (h : n < 18446744073709551616) : sizeN n = sizeN (n / 256) + 1 := by
  by_cases h1 : 256 ≤ n
  · have := Lib.bitLen_shift8 n h1 h
    unfold sizeN
    omega
  · have e : n / 256 = 0 := by omega
    rw [e, sizeN_zero]
    have a := sizeN_pos h0 h
    have b := sizeN_small (n := n) (k := 1) (by omega) (by omega)
    omega
theorem dig_snoc : ∀ (k n : Nat), dig (k + 1) n = dig k (n / 256) ++ [UInt8.ofNat n]
  | 0, n => by simp [dig]
  | k + 1, n => by
    rw [dig, dig_snoc k n, dig, Nat.div_div_eq_div_mul, Nat.pow_succ, Nat.mul_comm]
    rfl
theorem eB_cons256 (n : Nat) (l : List UInt8) : [AV.v (.int .u8 ((n : Int) % 256))] :: eB l = eB (UInt8.ofNat n :: l) := by
  simp [eB, encB]
def FmI (n0 : Nat) (t : Nat → AV) (_ : Nat → Option (List AV)) : Prop := ∃ (n : Nat) (out : List UInt8) (tag : Tag), t 0 = .v (.int .u64 n) ∧ t 3 = .sl tag (eB out) ∧ n ≤ n0 ∧ dig (sizeN n) n ++ out = dig (sizeN n0) n0
theorem form2_spec (n : Nat) (h : n < 18446744073709551616) : ASpec Try.prog 116 [.v (.int .u64 n)] (Own 5 1 (eB (formF n))) := by
  refine ASpec.of_awp Try.func116 (by kernel_rfl) rfl (by rw [Try.results116]) Try.ntmps116 ?_
  simp -implicitDefEqProofs
  refine loopK.intro (FmI n) (fun t => natOf (t 0)) ?_ ?_
  · exact ⟨n, [], _, by simp, by simp; rfl, by omega, by simp⟩
  rintro t hh ⟨x, out, tag, g0, g3, hx, he⟩
  simp -implicitDefEqProofs [g0]
  have hl := congrArg List.length he
  simp only [List.length_append, dig_length] at hl
  have hs := sizeN_le h
  refine branch_dec (fun hlt => ?_) (fun hlt => ?_)
  · have hlt : 0 < x := by omega
    have hst := sizeN_step hlt (by omega)
    have hw : IntKind.u8.wrap ((x : Int) % 256) = (x : Int) % 256 := wu8 (by omega) (by omega)
    have hw2 : IntKind.u64.wrap ((x : Int) / 256) = ((x / 256 : Nat) : Int) := by rw [wu64 (by omega) (by omega)]; omega
    simp -implicitDefEqProofs [g0, g3, hw]
    rw [eB_cons256, hw2]
    refine ⟨by omega, ⟨x / 256, UInt8.ofNat x :: out, _, by simp, by simp; rfl, by omega, ?_⟩, by omega⟩
    rw [← he, hst, dig_snoc]
    simp
  · have hx0 : x = 0 := by omega
    subst hx0
    have hw : IntKind.u8.wrap (out.length : Int) = (out.length : Int) % 256 := by rw [wu8 (by omega) (by omega)]; rw [sizeN_zero] at hl; omega
    simp -implicitDefEqProofs [g0, g3, hw]
    intro _
    rw [eB_cons256]
    rw [sizeN_zero] at hl he
    refine ⟨by omega, appTag Tag.full 5 1 (eB out), by simp, ?_⟩
    rw [formF, ← he, ← hl]; simp [dig]

def Pt2I (b : List UInt8) (ns : List Nat) (t : Nat → AV) (_ : Nat → Option (List AV)) : Prop := ∃ (k : Nat) (out : List UInt8) (tag : Tag), t 11 = .sl .no (eU ns) ∧ t 12 = .v (.int .i64 ns.length) ∧ t 13 = .v (.int .i64 k) ∧
  t 5 = .sl tag (eB out) ∧ appOK tag 5 1 ∧ k ≤ ns.length ∧ out ++ forms (ns.drop k) = b ++ forms ns ∧ out.length ≤ b.length + 9 * k
theorem put2_spec (b : List UInt8) (ns : List Nat) (hns : ∀ n ∈ ns, n < 18446744073709551616) (hl : b.length + 9 * ns.length ≤ 140737488355328) :
    ASpec Try.prog 86 [.sl .no (eB b), .sl .no (eU ns)] (Own 5 1 (eB (b ++ forms ns))) := by
  refine ASpec.of_awp Try.func86 (by kernel_rfl) rfl (by rw [Try.results86]) Try.ntmps86 ?_
  simp -implicitDefEqProofs
  refine ⟨by omega, fun hlen => ?_⟩
  refine loopK.intro (Pt2I b ns) (fun t => ns.length - natOf (t 13)) ?_ ?_
  · exact ⟨0, b, _, by simp, by simp, by simp, by simp; rfl, by simp, by omega, by simp, by omega⟩
  rintro t hh ⟨k, out, tag, h11, h12, h13, h5, ht, hk, ho, hol⟩
  simp -implicitDefEqProofs [h12, h13]
  refine branch_dec (fun hlt => ?_) (fun hlt => ?_)
  · have hlt : k < ns.length := by omega
    have hx : ns[k]? = some ns[k] := by simp [hlt]
    have hx64 := hns ns[k] (List.getElem_mem hlt)
    have hsz := sizeN_le hx64
    have hj1 : IntKind.i64.wrap ((k : Int) + 1) = (k : Int) + 1 := w64 (by omega) (by omega)
    have hf : (formF ns[k]).length ≤ 9 := by rw [formF_length]; omega
    simp -implicitDefEqProofs [h11, h12, h13, hx, hlt, encU, h5, ht]
    refine CallK.of (form2_spec _ hx64) ?_
    rintro _ ⟨tag2, ht2, rfl⟩
    simp -implicitDefEqProofs [h5, ht, h13, hj1]
    refine ⟨by omega, ⟨k + 1, out ++ formF ns[k], appTag tag 5 1 (eB (formF ns[k])), by simp [h11], by simp [h12], by simp, by simp, by simp [ht], by omega, ?_, ?_⟩, by omega⟩
    · rw [← ho, List.drop_eq_getElem_cons hlt, forms_cons]; simp
    · simp; omega
  · have hk' : k = ns.length := by omega
    subst hk'
    simp -implicitDefEqProofs [h5]
    simp [forms] at ho
    rw [ho]
    exact ⟨tag, ht, rfl⟩
end Go.Proofs.Ytbgifnlaaophcaa

/- Contracts: numbers out of bytes, told otherwise. No condition. -/
set_option linter.unusedSimpArgs false
set_option linter.unusedVariables false
set_option maxRecDepth 10000
namespace Go.Proofs.Ytbgifnlaaophcaa
open Go Go.Rw Go.Proofs
-- a goal is never to be run by the elaborator
attribute [local irreducible] awp aops aop aopsE aeff

theorem valN_le (l : List UInt8) (k : Nat) (h : l.length ≤ k) (hk : 8 * k ≤ 64) : sizeN (valN l) ≤ k := by
  refine sizeN_small hk (Nat.lt_of_lt_of_le (valN_lt l) (Nat.pow_le_pow_right (by omega) h))
def Gt2I (b seg : List UInt8) (t : Nat → AV) (_ : Nat → Option (List AV)) : Prop := ∃ j : Nat, t 0 = .sl .no (eB b) ∧ t 6 = .v (.int .i64 ((j : Int) + 1)) ∧ t 5 = .v (.int .u64 (valN (seg.take j))) ∧ j ≤ seg.length
theorem get2_spec (b : List UInt8) (hl : b.length ≤ 140737488355328) : ASpec Try.prog 68 [.sl .no (eB b)] (· = getA (getF b)) := by
  refine ASpec.of_awp Try.func68 (by kernel_rfl) rfl (by rw [Try.results68]) Try.ntmps68 ?_
  cases b with
  | nil =>
    simp -implicitDefEqProofs [getA, getF]
  | cons x r =>
    have hx := x.toNat_lt
    have hc : IntKind.i64.wrap (x.toNat : Int) = (x.toNat : Int) := w64 (by omega) (by omega)
    simp only [List.length_cons] at hl
    have hr : IntKind.i64.wrap (r.length : Int) = (r.length : Int) := w64 (by omega) (by omega)
    have hr2 : IntKind.i64.wrap ((r.length : Int) + 1 - 1) = (r.length : Int) := by rw [w64 (by omega) (by omega)]; omega
    have hz : ¬ ((r.length : Int) + 1 = 0) := by omega
    by_cases h1 : 8 < x.toNat
    · have hg : getF (x :: r) = none := by simp only [getF]; rw [if_pos (.inl (by omega))]
      have h1' : (8 : Int) < x.toNat := by omega
      simp -implicitDefEqProofs [hz, encB, hg, getA, h1']
    have h1' : ¬ (8 : Int) < x.toNat := by omega
    by_cases h2 : r.length < x.toNat
    · have hg : getF (x :: r) = none := by simp only [getF]; rw [if_pos (.inr (by omega))]
      have h2' : (r.length : Int) < x.toNat := by omega
      simp -implicitDefEqProofs [hz, encB, hg, getA, h1', hc, hr, hr2, h2']
    have h2' : ¬ (r.length : Int) < x.toNat := by omega
    obtain ⟨seg, hs⟩ : ∃ seg, r.take x.toNat = seg := ⟨_, rfl⟩
    have hsl : seg.length = x.toNat := by rw [← hs]; simp; omega
    have hge : getF (x :: r) = if sizeN (valN seg) = x.toNat then some (valN seg, r.drop x.toNat) else none := by
      simp only [getF]
      rw [if_neg (by omega), hs]
    have h64 : valN seg < 18446744073709551616 := by
      have g1 := valN_lt seg
      have g2 : (256 : Nat) ^ seg.length ≤ 256 ^ 8 := Nat.pow_le_pow_right (by omega) (by omega)
      have g3 : (256 : Nat) ^ 8 = 18446744073709551616 := by decide
      omega
    have hsz := valN_le seg x.toNat (by omega) (by omega)
    simp -implicitDefEqProofs [hz, encB, h1', hc, hr, hr2, h2']
    intro _
    refine loopK.intro (Gt2I (x :: r) seg) (fun t => x.toNat + 1 - natOf (t 6)) ?_ ?_
    · exact ⟨0, by simp, by simp, by simp [valN], by omega⟩
    rintro t hh ⟨j, g0, g6, g5, hj⟩
    simp -implicitDefEqProofs [g0, g6, g5, hc, encB]
    refine branch_dec (fun hlt => ?_) (fun hlt => ?_)
    · have hlt : j < seg.length := by omega
      have hy : seg[j]? = some seg[j] := by simp [hlt]
      have hy2 : r[j]? = some seg[j] := by rw [← hy, ← hs, List.getElem?_take, if_pos (by omega)]
      have hsn : valN (seg.take (j + 1)) = valN (seg.take j) * 256 + seg[j].toNat := by
        rw [List.take_add_one, hy]; exact valN_snoc _ _
      have hb : valN (seg.take j) * 256 + seg[j].toNat < 18446744073709551616 := by
        have g1 := valN_lt (seg.take (j + 1))
        have g2 : (256 : Nat) ^ (seg.take (j + 1)).length ≤ 256 ^ 8 := Nat.pow_le_pow_right (by omega) (by simp; omega)
        have g3 : (256 : Nat) ^ 8 = 18446744073709551616 := by decide
        omega
      have w1 : IntKind.u64.wrap ((valN (seg.take j) : Int) * 256) = (valN (seg.take j) : Int) * 256 := wu64 (by omega) (by omega)
      have w2 : IntKind.u64.wrap (seg[j].toNat : Int) = (seg[j].toNat : Int) := wu64 (by omega) (by omega)
      have w3 : IntKind.u64.wrap ((valN (seg.take j) : Int) * 256 + (seg[j].toNat : Int)) = (valN (seg.take j) : Int) * 256 + (seg[j].toNat : Int) := wu64 (by omega) (by omega)
      have w4 : IntKind.i64.wrap ((j : Int) + 1 + 1) = (j : Int) + 1 + 1 := w64 (by omega) (by omega)
      have e1 : (0 : Int) ≤ (j : Int) + 1 := by omega
      have e2 : ((j : Int) + 1).toNat = j + 1 := by omega
      simp -implicitDefEqProofs [g0, g6, g5, encB, hy2, w1, w2, w3, w4, e1, e2]
      exact ⟨⟨j + 1, by simp [g0], by simp, by simp [hsn], by omega⟩, by omega⟩
    · have hj' : j = seg.length := by omega
      subst hj'
      rw [List.take_length] at g5
      simp -implicitDefEqProofs [g5]
      refine CallK.of (form2_spec _ h64) ?_
      rintro _ ⟨tag, _, rfl⟩
      simp -implicitDefEqProofs
      refine regionK.intro 8 follows_mixed (by kernel_rfl) ?_
      have e1 : sizeN (valN seg) ≤ r.length := by omega
      have e2 : ((r.length : Int) + 1 - (sizeN (valN seg) + 1 : Nat)).toNat = r.length - sizeN (valN seg) := by omega
      have hfl := formF_length (valN seg)
      have f1 : ((formF (valN seg)).length : Int) ≤ (r.length : Int) + 1 := by omega
      have hiff : formF (valN seg) = (x :: r).take (formF (valN seg)).length ↔ sizeN (valN seg) = x.toNat := by
        constructor
        · intro h
          have h0 := congrArg (fun l => l[0]?) h
          simp only [formF, List.length_cons, List.take_succ_cons, List.getElem?_cons_zero, Option.some.injEq] at h0
          rw [← h0, UInt8.toNat_ofNat', Nat.mod_eq_of_lt (by omega)]
        · intro h
          rw [if_pos h] at hge
          have := (getF_some hge).1
          conv => rhs; rw [this]
          simp
      by_cases hq : sizeN (valN seg) = x.toNat
      · have hq2 := hiff.2 hq
        rw [if_pos hq] at hge
        have hd : (x :: r).drop (formF (valN seg)).length = r.drop x.toNat := by rw [hfl, hq]; rfl
        have htk : (r.drop x.toNat).take (r.length - x.toNat) = r.drop x.toNat := List.take_of_length_le (by simp)
        simp -implicitDefEqProofs [g0, g5, f1, ← hq2]
        intro _
        have e3 : r.length + 1 - (formF (valN seg)).length = r.length - x.toNat := by omega
        rw [hge, hd, e3, htk]
        exact ⟨by omega, rfl⟩
      · have hq2 : ¬ formF (valN seg) = (x :: r).take (formF (valN seg)).length := fun h => hq (hiff.1 h)
        rw [if_neg hq] at hge
        simp -implicitDefEqProofs [g0, f1, hq2, hge, getA]
end Go.Proofs.Ytbgifnlaaophcaa

/- Contracts: sums and frames, told otherwise. No condition. -/
set_option linter.unusedSimpArgs false
set_option linter.unusedVariables false
set_option maxRecDepth 10000
namespace Go.Proofs.Ytbgifnlaaophcaa
open Go Go.Rw Go.Proofs
-- a goal is never to be run by the elaborator
attribute [local irreducible] awp aops aop aopsE aeff

theorem crcStep_eq (c : BitVec 32) (b : Bool) : crcStep c b = (c >>> 1) ^^^ poly (c.getLsbD 0 ^^ b) := by
  rw [crcStep, crcBit_xor, crcBit_one, crcBit_eq, poly_xor, BitVec.xor_assoc]
theorem and1_bit (c : BitVec 32) : c &&& 1#32 = bit1 (c.getLsbD 0) := by
  apply BitVec.eq_of_getLsbD_eq
  intro i hi
  rw [BitVec.getLsbD_and]
  by_cases h0 : i = 0
  · subst h0
    cases c.getLsbD 0 <;> decide
  · have : (1#32).getLsbD i = false := by rw [BitVec.getLsbD_one]; simp [h0]
    rw [this]
    cases c.getLsbD 0 <;> simp [bit1, this]
theorem bit1_xor (a b : Bool) : bit1 a ^^^ bit1 b = bit1 (a ^^ b) := by cases a <;> cases b <;> decide
theorem bit1_one (a : Bool) : n32 (bit1 a) = 1 ↔ a = true := by cases a <;> decide
theorem byte_bit (x r : Nat) (hx : x < 256) : bitOp .and .u32 (IntKind.u32.wrap ((x : Int) / 2 ^ r)) 1 = n32 (bit1 (x.testBit r)) := by
  have hd : x / 2 ^ r ≤ x := Nat.div_le_self _ _
  have he : (x : Int) / 2 ^ r = ((x / 2 ^ r : Nat) : Int) := by norm_cast
  rw [he, w32_n _ (by omega), bw_and1, and1_bit]
  congr 2
  rw [BitVec.getLsbD_ofNat, Nat.testBit_div_two_pow]
  simp
theorem sub_not (c : BitVec 32) : IntKind.u32.wrap (4294967295 - n32 c) = n32 (~~~c) := by
  have h := c.isLt
  have e : (~~~c).toNat = 4294967295 - c.toNat := by rw [BitVec.toNat_not]
  unfold n32
  rw [e, wu32 (by omega) (by omega)]
  omega
def Of2I (l : List UInt8) (t : Nat → AV) (_ : Nat → Option (List AV)) : Prop := ∃ (k : Nat) (c : BitVec 32), t 0 = .sl .no (eB l) ∧ t 4 = .v (.int .i64 k) ∧ t 3 = .v (.int .u32 (n32 c)) ∧ k ≤ 8 * l.length ∧ crcS c ((toBits l).drop k) = crcL (BitVec.allOnes 32) l
theorem of3_spec (l : List UInt8) (hl : l.length ≤ 140737488355328) : ASpec Try.prog 123 [.sl .no (eB l)] (· = .v (.int .u32 (n32 (crcOf l)))) := by
  refine ASpec.of_awp Try.func123 (by kernel_rfl) rfl (by rw [Try.results123]) Try.ntmps123 ?_
  simp -implicitDefEqProofs
  refine loopK.intro (Of2I l) (fun t => 8 * l.length - natOf (t 4)) ?_ ?_
  · exact ⟨0, BitVec.allOnes 32, by simp, by simp, by simp; rfl, by omega, by rw [List.drop_zero, crcL_toBits]⟩
  rintro t hh ⟨k, c, g0, g4, g3, hk, hc⟩
  have w1 : IntKind.i64.wrap (8 * (l.length : Int)) = 8 * l.length := w64 (by omega) (by omega)
  simp -implicitDefEqProofs [g0, g4, w1]
  intro _
  refine branch_dec (fun hlt => ?_) (fun hlt => ?_)
  · have hlt : k < 8 * l.length := by omega
    obtain ⟨q, hq⟩ : ∃ q, k / 8 = q := ⟨_, rfl⟩
    obtain ⟨r, hr⟩ : ∃ r, k % 8 = r := ⟨_, rfl⟩
    have hq' : (k : Int) / 8 = (q : Int) := by omega
    have hr' : (k : Int) % 8 = (r : Int) := by omega
    have hx : l[q]? = some l[q] := by simp
    have hx8 := l[q].toNat_lt
    have w2 : IntKind.i64.wrap (q : Int) = q := w64 (by omega) (by omega)
    have w3 : IntKind.i64.wrap ((k : Int) + 1) = (k : Int) + 1 := w64 (by omega) (by omega)
    have hbit : (toBits l)[k]? = some (l[q].toNat.testBit r) := by rw [toBits_get, hq, hr, hx]; rfl
    have hk8 : k < (toBits l).length := by simpa using hlt
    have hdrop : (toBits l).drop k = l[q].toNat.testBit r :: (toBits l).drop (k + 1) := by
      rw [List.drop_eq_getElem_cons hk8]
      rw [List.getElem?_eq_getElem hk8] at hbit
      rw [Option.some.inj hbit]
    have hsh : Int.fdiv (l[q].toNat : Int) (2 ^ min r 8) = (l[q].toNat : Int) / 2 ^ r := by
      rw [Nat.min_eq_left (by omega)]
      exact Int.fdiv_eq_ediv_of_nonneg _ (Int.pow_nonneg (by omega))
    have hbb := byte_bit l[q].toNat r (by omega)
    generalize hB : l[q].toNat.testBit r = B at *
    rw [hdrop, crcS_cons, crcStep_eq] at hc
    have hbx : bitOp .xor .u32 (bitOp .and .u32 (n32 c) 1) (bitOp .and .u32 (IntKind.u32.wrap ((l[q].toNat : Int) / 2 ^ r)) 1) = n32 (bit1 (c.getLsbD 0 ^^ B)) := by
      rw [hbb, bw_and1, and1_bit, bw_xor, bit1_xor]
    have hp : bitOp .xor .u32 (n32 (c >>> 1)) 3988292384 = n32 ((c >>> 1) ^^^ 3988292384#32) := bw_xor _ 3988292384#32
    generalize c.getLsbD 0 = A at hc hbx
    cases hb : A ^^ B
    · have e1 : ¬ n32 (bit1 (A ^^ B)) = 1 := by rw [hb]; decide
      rw [hb] at hc
      simp -implicitDefEqProofs [g0, g4, g3, hq', hr', hx, encB, w2, w3, aNum_shr, hsh, hbx, e1, IntKind.bits, bw_shr1]
      refine ⟨⟨k + 1, c >>> 1, by simp [g0], by simp, by simp, by omega, ?_⟩, by omega⟩
      rw [← hc]; simp [poly]
    · have e1 : n32 (bit1 (A ^^ B)) = 1 := by rw [hb]; decide
      rw [hb] at hc
      simp -implicitDefEqProofs [g0, g4, g3, hq', hr', hx, encB, w2, w3, aNum_shr, hsh, hbx, e1, IntKind.bits, bw_shr1, hp]
      refine ⟨⟨k + 1, (c >>> 1) ^^^ 3988292384#32, by simp [g0], by simp, by simp, by omega, ?_⟩, by omega⟩
      rw [← hc]; simp [poly]
  · have hk' : k = 8 * l.length := by omega
    subst hk'
    rw [List.drop_of_length_le (by simp), crcS_nil] at hc
    simp -implicitDefEqProofs [g3]
    rw [sub_not, hc, crcOf]

theorem tail_rows (c : BitVec 32) : ([[AV.v (Value.int IntKind.u8 (IntKind.u8.wrap ((n32 c).tmod 256)))],
              [AV.v (Value.int IntKind.u8 (IntKind.u8.wrap ((IntKind.u32.wrap ((n32 c).tdiv 256)).tmod 256)))],
              [AV.v (Value.int IntKind.u8 (IntKind.u8.wrap ((IntKind.u32.wrap ((n32 c).tdiv 65536)).tmod 256)))],
              [AV.v (Value.int IntKind.u8 (IntKind.u8.wrap (IntKind.u32.wrap ((n32 c).tdiv 16777216))))]] : List (List AV)) = eB (tailF c) := by
  have hc := c.isLt
  obtain ⟨n, hn⟩ : ∃ n, c.toNat = n := ⟨_, rfl⟩
  have hn2 : n32 c = (n : Int) := by rw [← hn]; rfl
  rw [hn] at hc
  have hm : ∀ m : Nat, IntKind.u8.wrap ((m : Int) % 256) = ((UInt8.ofNat m).toNat : Int) := fun m => by
    rw [UInt8.toNat_ofNat', wu8 (by omega) (by omega)]; omega
  have d1 : IntKind.u32.wrap ((n : Int).tdiv 256) = ((n / 256 : Nat) : Int) := by rw [tdiv_pos (by omega), wu32 (by omega) (by omega)]; omega
  have d2 : IntKind.u32.wrap ((n : Int).tdiv 65536) = ((n / 65536 : Nat) : Int) := by rw [tdiv_pos (by omega), wu32 (by omega) (by omega)]; omega
  have d3 : IntKind.u32.wrap ((n : Int).tdiv 16777216) = ((n / 16777216 : Nat) : Int) := by rw [tdiv_pos (by omega), wu32 (by omega) (by omega)]; omega
  have d4 : IntKind.u8.wrap ((n / 16777216 : Nat) : Int) = ((UInt8.ofNat (n / 16777216)).toNat : Int) := by
    rw [UInt8.toNat_ofNat', wu8 (by omega) (by omega)]; omega
  rw [hn2, d1, d2, d3, d4, tmod_pos (by omega), tmod_pos (by omega), tmod_pos (by omega), hm, hm, hm, tailF, hn]
  rfl
theorem seal3_spec (l : List UInt8) (hl : l.length + 4 ≤ 140737488355328) : ASpec Try.prog 85 [.sl .no (eB l)] (Own 5 1 (eB (sealF l))) := by
  refine ASpec.of_awp Try.func85 (by kernel_rfl) rfl (by rw [Try.results85]) Try.ntmps85 ?_
  simp -implicitDefEqProofs
  refine CallK.eq (of3_spec l (by omega)) ?_
  simp -implicitDefEqProofs
  rw [tail_rows]
  refine ⟨by omega, by omega, appTag (appTag Tag.full 5 1 (eB l)) 5 1 (eB (tailF (crcOf l))), by simp, ?_⟩
  rw [sealF, eB_append]
theorem open3_spec (f : List UInt8) (hf : f.length ≤ 140737488355328) : ASpec Try.prog 67 [.sl .no (eB f)] (· = openA (openF f)) := by
  refine ASpec.of_awp Try.func67 (by kernel_rfl) rfl (by rw [Try.results67]) Try.ntmps67 ?_
  by_cases h4 : f.length < 4
  · have h4' : (f.length : Int) < 4 := by omega
    have ho : openF f = none := by rw [openF, if_pos h4]
    simp -implicitDefEqProofs [h4', ho, openA]
  have h4' : ¬ (f.length : Int) < 4 := by omega
  have w1 : IntKind.i64.wrap ((f.length : Int) - 4) = (f.length : Int) - 4 := w64 (by omega) (by omega)
  have e1 : ((f.length : Int) - 4).toNat = f.length - 4 := by omega
  have e2 : (f.length : Int) - 4 ≤ f.length := by omega
  have e3 : (0 : Int) ≤ (f.length : Int) - 4 := by omega
  have e4 : (4 : Int) ≤ f.length := by omega
  obtain ⟨body, hbody⟩ : ∃ body, f.take (f.length - 4) = body := ⟨_, rfl⟩
  have hbl : body.length + 4 = f.length := by rw [← hbody]; simp; omega
  have ho : openF f = if sealF body = f then some body else none := by
    have hf2 : f = body ++ f.drop (f.length - 4) := by rw [← hbody, List.take_append_drop]
    have hiff : sealF body = f ↔ tailF (crcOf body) = f.drop (f.length - 4) := by
      constructor
      · intro h
        rw [sealF] at h
        conv at h => rhs; rw [hf2]
        exact List.append_cancel_left h
      · intro h
        conv => rhs; rw [hf2]
        rw [sealF, h]
    rw [openF, if_neg h4, hbody]
    by_cases hq : sealF body = f
    · rw [if_pos (hiff.1 hq), if_pos hq]
    · rw [if_neg (fun h => hq (hiff.2 h)), if_neg hq]
  simp -implicitDefEqProofs [h4', w1, e1, e2, e3, e4, hbody]
  intro _
  refine ⟨by omega, ?_⟩
  refine regionK.intro 6 follows_mixed (by kernel_rfl) ?_
  simp -implicitDefEqProofs
  refine CallQ.of (seal3_spec body (by omega)) (x := .sl .no (eB (sealF body))) (by rintro _ ⟨tag, _, rfl⟩; rfl) ?_
  by_cases hq : sealF body = f
  · rw [if_pos hq] at ho
    simp -implicitDefEqProofs [hq, ho, openA]
  · rw [if_neg hq] at ho
    simp -implicitDefEqProofs [hq, ho, openA]
end Go.Proofs.Ytbgifnlaaophcaa

/- Contracts: changes, tags and lists that can be, told otherwise. No condition. -/
set_option linter.unusedSimpArgs false
set_option linter.unusedVariables false
set_option maxRecDepth 10000
namespace Go.Proofs.Ytbgifnlaaophcaa
open Go Go.Rw Go.Proofs
-- a goal is never to be run by the elaborator
attribute [local irreducible] awp aops aop aopsE aeff

theorem right4_spec (v : PView) : ASpec Try.prog 87 [.agg (eV v)] (· = .v (.bool (rightV v))) := by
  refine ASpec.of_awp Try.func87 (by kernel_rfl) rfl (by rw [Try.results87]) Try.ntmps87 ?_
  simp -implicitDefEqProofs [eV]
  refine allocK.intro (fun b hb => ?_)
  by_cases h1 : 0 ≤ v.add
  · by_cases h2 : v.add ≤ 63
    · by_cases h3 : 0 ≤ v.del
      · by_cases h4 : v.del ≤ 63
        · simp -implicitDefEqProofs [h1, h2, h3, h4, rightV]
          omega
        · simp -implicitDefEqProofs [h1, h2, h3, h4, rightV]
          omega
      · simp -implicitDefEqProofs [h1, h2, h3, rightV]
    · simp -implicitDefEqProofs [h1, h2, rightV]
      omega
  · simp -implicitDefEqProofs [h1, rightV]
theorem right6_spec (t : PTag) : ASpec Try.prog 124 [.agg (eT t)] (· = .v (.bool (rightT t))) := by
  refine ASpec.of_awp Try.func124 (by kernel_rfl) rfl (by rw [Try.results124]) Try.ntmps124 ?_
  simp -implicitDefEqProofs [eT]
  refine allocK.intro (fun b hb => ?_)
  by_cases h0 : t.num = 0
  · by_cases h1 : t.node = 0
    · simp -implicitDefEqProofs [h0, h1, rightT]
    · simp -implicitDefEqProofs [h0, h1, rightT]
  · by_cases h1 : 0 < t.num
    · by_cases h2 : t.num ≤ 1000000
      · by_cases h3 : 0 ≤ t.node
        · by_cases h4 : t.node ≤ 5
          · simp -implicitDefEqProofs [h0, h1, h2, h3, h4, rightT]
            omega
          · simp -implicitDefEqProofs [h0, h1, h2, h3, h4, rightT]
            omega
        · simp -implicitDefEqProofs [h0, h1, h2, h3, rightT]
      · simp -implicitDefEqProofs [h0, h1, h2, rightT]
    · have : ¬ 0 ≤ t.num := by omega
      simp -implicitDefEqProofs [h0, h1, this, rightT]
theorem name4_spec (v : PView) (h : rightV v = true) : ASpec Try.prog 83 [.agg (eV v)] (· = eI (nameV v)) := by
  refine ASpec.of_awp Try.func83 (by kernel_rfl) rfl (by rw [Try.results83]) Try.ntmps83 ?_
  simp -implicitDefEqProofs [eV]
  refine allocK.intro (fun b hb => ?_)
  simp [rightV] at h
  have e1 : IntKind.i64.wrap (64 * v.add) = 64 * v.add := w64 (by omega) (by omega)
  have e2 : IntKind.i64.wrap (64 * v.add + v.del) = 64 * v.add + v.del := w64 (by omega) (by omega)
  simp -implicitDefEqProofs [e1, e2, nameV]
  omega
def Nm4I (n : Int) (b : Nat) (t : Nat → AV) (h : Nat → Option (List AV)) : Prop := ∃ k : Nat, t 0 = eI n ∧ t 2 = .ptr b 0 ∧ t 4 = eI k ∧ h b = some (eV ⟨0, 0⟩) ∧ k ≤ 64 ∧ ¬ (0 ≤ n ∧ n < 64 * (k : Int))
theorem named4_spec (n : Int) : ASpec Try.prog 70 [eI n] (· = namedA n) := by
  refine ASpec.of_awp Try.func70 (by kernel_rfl) rfl (by rw [Try.results70]) Try.ntmps70 ?_
  simp -implicitDefEqProofs
  refine allocK.intro (fun b hb => ?_)
  simp -implicitDefEqProofs
  refine loopK.intro (Nm4I n b) (fun t => 64 - natOf (t 4)) ?_ ?_
  · exact ⟨0, by simp, by simp, by simp, by simp [eV], by omega, by omega⟩
  rintro t hh ⟨k, g0, g2, g4, gb, hk, hn⟩
  simp -implicitDefEqProofs [g4]
  refine branch_dec (fun hlt => ?_) (fun hlt => ?_)
  · have hlt : k < 64 := by omega
    have w1 : IntKind.i64.wrap (64 * (k : Int)) = 64 * k := w64 (by omega) (by omega)
    have w2 : IntKind.i64.wrap (64 * (k : Int) + 63) = 64 * k + 63 := w64 (by omega) (by omega)
    have w3 : IntKind.i64.wrap ((k : Int) + 1) = (k : Int) + 1 := w64 (by omega) (by omega)
    by_cases h1 : 64 * (k : Int) ≤ n
    · by_cases h2 : n ≤ 64 * (k : Int) + 63
      · have w4 : IntKind.i64.wrap (n - 64 * (k : Int)) = n - 64 * (k : Int) := w64 (by omega) (by omega)
        have h3 : 0 ≤ n ∧ n < 4096 := by omega
        have e1 : n / 64 = k := by omega
        have e2 : n % 64 = n - 64 * (k : Int) := by omega
        simp -implicitDefEqProofs [g0, g2, g4, gb, w1, w2, h1, h2, w4, namedA, h3, e1, e2, eV]
      · simp -implicitDefEqProofs [g0, g2, g4, gb, w1, w2, w3, h1, h2]
        exact ⟨⟨k + 1, by simp [g0], by simp [g2], by simp, by simp [gb], by omega, by omega⟩, by omega⟩
    · simp -implicitDefEqProofs [g0, g2, g4, gb, w1, w2, w3, h1]
      exact ⟨⟨k + 1, by simp [g0], by simp [g2], by simp, by simp [gb], by omega, by omega⟩, by omega⟩
  · have hk' : k = 64 := by omega
    subst hk'
    have h3 : ¬ (0 ≤ n ∧ n < 4096) := by omega
    simp -implicitDefEqProofs [g2, gb, namedA, h3, eV]
end Go.Proofs.Ytbgifnlaaophcaa

/- Contracts: lists of cells and entries, told otherwise. No condition. -/
set_option linter.unusedSimpArgs false
set_option linter.unusedVariables false
set_option maxRecDepth 10000
namespace Go.Proofs.Ytbgifnlaaophcaa
open Go Go.Rw Go.Proofs
-- a goal is never to be run by the elaborator
attribute [local irreducible] awp aops aop aopsE aeff

def Sm10I (a b : List PCell) (t : Nat → AV) (_ : Nat → Option (List AV)) : Prop := ∃ k : Nat, t 0 = .sl .no (eCs a) ∧ t 1 = .sl .no (eCs b) ∧ t 12 = .v (.int .i64 a.length) ∧ t 13 = .v (.int .i64 k) ∧ k ≤ a.length ∧ a.take k = b.take k
theorem same10_spec (a b : List PCell) : ASpec Try.prog 72 [.sl .no (eCs a), .sl .no (eCs b)] (· = .v (.bool (decide (a = b)))) := by
  refine ASpec.of_awp Try.func72 (by kernel_rfl) rfl (by rw [Try.results72]) Try.ntmps72 ?_
  simp -implicitDefEqProofs
  intro h1 h2
  by_cases hl : a.length = b.length
  · simp -implicitDefEqProofs [hl]
    intro _
    refine loopK.intro (Sm10I a b) (fun t => a.length - natOf (t 13)) ?_ ?_
    · exact ⟨0, by simp, by simp, by simp [hl], by simp, by omega, by simp⟩
    rintro t hh ⟨k, g0, g1, g12, g13, hk, he⟩
    simp -implicitDefEqProofs [g12, g13]
    refine branch_dec (fun hlt => ?_) (fun hlt => ?_)
    · have hlt : k < a.length := by omega
      have hlt2 : k < b.length := by omega
      obtain ⟨x, hx⟩ : ∃ x, a[k]? = some x := ⟨a[k], by simp [hlt]⟩
      obtain ⟨y, hy⟩ : ∃ y, b[k]? = some y := ⟨b[k], by simp [hlt2]⟩
      have hj1 : IntKind.i64.wrap ((k : Int) + 1) = (k : Int) + 1 := w64 (by omega) (by omega)
      simp -implicitDefEqProofs [g13]
      refine regionK.intro 9 follows_mixed (by kernel_rfl) ?_
      simp -implicitDefEqProofs [g0, g1, g13, hx, hy, eC]
      refine branch_intro (fun hb2 => ?_) (fun hb2 => ?_)
      · have hne : x ≠ y := by rintro rfl; simp at hb2
        simp -implicitDefEqProofs
        rintro rfl
        rw [hx] at hy
        exact hne (Option.some.inj hy)
      · have hxy : x = y := by
          obtain ⟨n1, a1, d1⟩ := x
          obtain ⟨n2, a2, d2⟩ := y
          simp at hb2
          simp [hb2]
        simp -implicitDefEqProofs [g13, hj1]
        refine ⟨⟨k + 1, by simp [g0], by simp [g1], by simp [g12], by simp, by omega, ?_⟩, by omega⟩
        rw [List.take_add_one, List.take_add_one, he, hx, hy, hxy]
    · have hk' : k = a.length := by omega
      subst hk'
      simp -implicitDefEqProofs
      rw [List.take_length, hl, List.take_length] at he
      exact he
  · have hne : ¬ a = b := by rintro rfl; exact hl rfl
    have hl' : ¬ (a.length : Int) = b.length := by omega
    simp -implicitDefEqProofs [hl, hl', hne]

theorem alike7_spec (x y : PEntry) (hx : x.value < 18446744073709551616) (hy : y.value < 18446744073709551616) : ASpec Try.prog 117 [.agg (eE x), .agg (eE y)] (· = .v (.bool (sameE x y))) := by
  refine ASpec.of_awp Try.func117 (by kernel_rfl) rfl (by rw [Try.results117]) Try.ntmps117 ?_
  simp -implicitDefEqProofs [eE]
  refine allocK.intro (fun b hb => ?_)
  simp -implicitDefEqProofs
  refine allocK.intro (fun b2 hb2 => ?_)
  have hbb : ¬ b = b2 := by rintro rfl; simp at hb2
  have hbb' : ¬ b2 = b := fun h => hbb h.symm
  simp -implicitDefEqProofs [hbb, hbb']
  refine regionK.intro 21 follows_mixed (by kernel_rfl) ?_
  by_cases h1 : x.key = y.key
  · by_cases h2 : x.tag.num = y.tag.num
    · by_cases h3 : x.tag.node = y.tag.node
      · have ht : x.tag = y.tag := by
          obtain ⟨k1, ⟨n1, a1⟩, v1⟩ := x
          obtain ⟨k2, ⟨n2, a2⟩, v2⟩ := y
          simp at h2 h3
          simp [h2, h3]
        simp -implicitDefEqProofs [hbb, hbb', h1, h2, h3]
        refine CallQ.eq (bits1_spec _ hx) ?_
        simp -implicitDefEqProofs [hbb, hbb', h1, h2, h3]
        refine CallQ.eq (bits1_spec _ hy) ?_
        simp -implicitDefEqProofs [hbb, hbb', h1, h2, h3, sameE, ht]
        try omega
      · have ht : ¬ x.tag = y.tag := fun h => h3 (by rw [h])
        have e3 : (x.tag.node == y.tag.node) = false := by simpa using h3
        simp -implicitDefEqProofs [hbb, hbb', h1, h2, h3, e3, sameE, ht]
    · have ht : ¬ x.tag = y.tag := fun h => h2 (by rw [h])
      have e2 : (x.tag.num == y.tag.num) = false := by simpa using h2
      simp -implicitDefEqProofs [hbb, hbb', h1, h2, e2, sameE, ht]
  · simp -implicitDefEqProofs [hbb, hbb', h1, sameE]

def Sm7I (a b : List PEntry) (t : Nat → AV) (_ : Nat → Option (List AV)) : Prop := ∃ k : Nat, t 0 = .sl .no (eEs a) ∧ t 1 = .sl .no (eEs b) ∧ t 12 = .v (.int .i64 a.length) ∧ t 13 = .v (.int .i64 k) ∧ k ≤ a.length ∧ sameEs (a.drop k) (b.drop k) = sameEs a b
theorem same7_spec (a b : List PEntry) (ha : ∀ x ∈ a, x.value < 18446744073709551616) (hb : ∀ x ∈ b, x.value < 18446744073709551616) : ASpec Try.prog 73 [.sl .no (eEs a), .sl .no (eEs b)] (· = .v (.bool (sameEs a b))) := by
  refine ASpec.of_awp Try.func73 (by kernel_rfl) rfl (by rw [Try.results73]) Try.ntmps73 ?_
  simp -implicitDefEqProofs
  intro h1 h2
  by_cases hl : a.length = b.length
  · simp -implicitDefEqProofs [hl]
    intro _
    refine loopK.intro (Sm7I a b) (fun t => a.length - natOf (t 13)) ?_ ?_
    · exact ⟨0, by simp, by simp, by simp [hl], by simp, by omega, by simp⟩
    rintro t hh ⟨k, g0, g1, g12, g13, hk, he⟩
    simp -implicitDefEqProofs [g12, g13]
    refine branch_dec (fun hlt => ?_) (fun hlt => ?_)
    · have hlt : k < a.length := by omega
      have hlt2 : k < b.length := by omega
      obtain ⟨x, hx⟩ : ∃ x, a[k]? = some x := ⟨a[k], by simp [hlt]⟩
      obtain ⟨y, hy⟩ : ∃ y, b[k]? = some y := ⟨b[k], by simp [hlt2]⟩
      have hj1 : IntKind.i64.wrap ((k : Int) + 1) = (k : Int) + 1 := w64 (by omega) (by omega)
      have hdx : a.drop k = x :: a.drop (k + 1) := by
        rw [List.drop_eq_getElem_cons hlt]; rw [List.getElem?_eq_getElem hlt] at hx; rw [Option.some.inj hx]
      have hdy : b.drop k = y :: b.drop (k + 1) := by
        rw [List.drop_eq_getElem_cons hlt2]; rw [List.getElem?_eq_getElem hlt2] at hy; rw [Option.some.inj hy]
      rw [hdx, hdy, sameEs] at he
      simp -implicitDefEqProofs [g13]
      refine regionK.intro 10 follows_mixed (by kernel_rfl) ?_
      simp -implicitDefEqProofs [g0, g1, g13, hx, hy, eE]
      refine CallQ.with (alike7_spec x y (ha x (List.mem_of_getElem? hx)) (hb y (List.mem_of_getElem? hy))) (by simp [eE]) ?_
      cases hs : sameE x y
      · rw [hs, Bool.false_and] at he
        simp -implicitDefEqProofs [← he]
      · rw [hs, Bool.true_and] at he
        simp -implicitDefEqProofs [g13, hj1]
        exact ⟨⟨k + 1, by simp [g0], by simp [g1], by simp [g12], by simp, by omega, he⟩, by omega⟩
    · have hk' : k = a.length := by omega
      subst hk'
      rw [List.drop_length, hl, List.drop_length] at he
      simp -implicitDefEqProofs [← he, sameEs]
  · have hl' : ¬ (a.length : Int) = b.length := by omega
    have hs := sameEs_len hl
    simp -implicitDefEqProofs [hl, hl', hs]
end Go.Proofs.Ytbgifnlaaophcaa

/- Contracts: lists of cells and entries that can be, told otherwise. No condition. -/
set_option linter.unusedSimpArgs false
set_option linter.unusedVariables false
set_option maxRecDepth 10000
namespace Go.Proofs.Ytbgifnlaaophcaa
open Go Go.Rw Go.Proofs
-- a goal is never to be run by the elaborator
attribute [local irreducible] awp aops aop aopsE aeff

theorem popN_pos : ∀ (k n : Nat), n < 2 ^ k → popN k n = 0 → n = 0
  | 0, n, h, _ => by simp at h; exact h
  | k + 1, n, h, h0 => by
    simp only [popN] at h0
    have h1 := popN_pos k (n / 2) (by rw [Nat.pow_succ] at h; omega) (by omega)
    omega
theorem popN_zero : ∀ k : Nat, popN k 0 = 0
  | 0 => rfl
  | k + 1 => by simp [popN, popN_zero k]
theorem sizeV_zero {v : PView} (h : rightV v = true) : sizeV v = 0 ↔ v.add = 0 ∧ v.del = 0 := by
  simp [rightV] at h
  have e : sizeV v = (popN 64 v.add.toNat : Int) + popN 64 v.del.toNat := by unfold sizeV; rfl
  rw [e]
  constructor
  · intro h0
    have h1 := popN_pos 64 v.add.toNat (by omega) (by omega)
    have h2 := popN_pos 64 v.del.toNat (by omega) (by omega)
    omega
  · rintro ⟨h1, h2⟩
    rw [h1, h2]
    simp [popN_zero]

def Ck10I (l : List PCell) (t : Nat → AV) (_ : Nat → Option (List AV)) : Prop := ∃ (k : Nat) (last : Int), t 0 = .sl .no (eCs l) ∧ t 5 = .sl .no (eCs l) ∧ t 6 = eI l.length ∧ t 7 = eI k ∧ k ≤ l.length ∧ checkC last (l.drop k) = checkC (-1) l ∧ -1 ≤ last ∧ (k = 0 → last = -1) ∧ (0 < k → ∃ c, l[k - 1]? = some c ∧ c.node = last)
theorem check10_spec (l : List PCell) : ASpec Try.prog 88 [.sl .no (eCs l)] (· = eI (if checkC (-1) l = true then 0 else 101)) := by
  refine ASpec.of_awp Try.func88 (by kernel_rfl) rfl (by rw [Try.results88]) Try.ntmps88 ?_
  simp -implicitDefEqProofs
  intro hlen
  refine loopK.intro (Ck10I l) (fun t => l.length - natOf (t 7)) ?_ ?_
  · exact ⟨0, -1, by simp, by simp, by simp, by simp, by omega, by simp, by omega, fun _ => rfl, fun h => absurd h (by omega)⟩
  rintro t hh ⟨k, last, g0, g5, g6, g7, hk, hc, hl1, hl0, hlp⟩
  simp -implicitDefEqProofs [g6, g7]
  refine branch_dec (fun hlt => ?_) (fun hlt => ?_)
  · have hlt : k < l.length := by omega
    obtain ⟨c, hx⟩ : ∃ c, l[k]? = some c := ⟨l[k], by simp [hlt]⟩
    have hd : l.drop k = c :: l.drop (k + 1) := by
      rw [List.drop_eq_getElem_cons hlt]
      rw [List.getElem?_eq_getElem hlt] at hx
      injection hx with hx
      rw [hx]
    rw [hd, checkC] at hc
    have hj1 : IntKind.i64.wrap ((k : Int) + 1) = (k : Int) + 1 := w64 (by omega) (by omega)
    have bad : okC last c = false → checkC (-1) l = false := fun h => by rw [← hc, h]; rfl
    have b1 := fun h => bad (okC_1 last c h)
    have b2 := fun h => bad (okC_2 last c h)
    have b3 := fun h => bad (okC_3 last c h)
    have b4 := fun h => bad (okC_4 last c h)
    simp -implicitDefEqProofs [g5, g6, g7, hx, eC]
    refine allocK.intro (fun b hb => ?_)
    simp -implicitDefEqProofs [g5, g7, hx, eC]
    refine regionK.intro 35 follows_mixed (by kernel_rfl) ?_
    by_cases h1 : c.node < 0
    · simp -implicitDefEqProofs [h1, b1 (by omega)]
    by_cases h2 : 5 < c.node
    · simp -implicitDefEqProofs [h1, h2, b2 (by omega)]
    simp -implicitDefEqProofs [h1, h2]
    refine CallQ.with (right4_spec c.change) (by simp [eV]) ?_
    cases h3 : rightV c.change
    · simp -implicitDefEqProofs [h1, h2, b3 h3]
    have hz := sizeV_zero h3
    by_cases h4 : c.change.add = 0 ∧ c.change.del = 0
    · simp -implicitDefEqProofs [h1, h2, h4, b4 (hz.2 h4)]
    have hok : ¬ c.node ≤ last → okC last c = true := fun h => okC_5 last c h (by omega) h3 (fun h => h4 (hz.1 h))
    have hcase : (c.change.add = 0 ∧ ¬ c.change.del = 0 ∧ (c.change.del == 0) = false) ∨ (¬ c.change.add = 0 ∧ (c.change.add == 0) = false) := by
      by_cases ha : c.change.add = 0
      · by_cases hd0 : c.change.del = 0
        · exact absurd ⟨ha, hd0⟩ h4
        · exact .inl ⟨ha, hd0, by simpa using hd0⟩
      · exact .inr ⟨ha, by simpa using ha⟩
    by_cases hk0 : k = 0
    · have hm := hl0 hk0
      rw [hok (by omega), Bool.true_and] at hc
      subst hk0
      have hnx : 0 < 1 → ∃ c0, l[1 - 1]? = some c0 ∧ c0.node = c.node := fun _ => ⟨c, hx, rfl⟩
      rcases hcase with ⟨q1, q2, q3⟩ | ⟨q1, q2⟩
      · simp -implicitDefEqProofs [h1, h2, q1, q2, q3, g7, hj1, wr1]
        exact ⟨⟨1, c.node, by simp [g0], by simp [g5], by simp [g6], by simp, by omega, hc, by omega, fun h => absurd h (by omega), hnx⟩, by omega⟩
      · simp -implicitDefEqProofs [h1, h2, q1, q2, g7, hj1, wr1]
        exact ⟨⟨1, c.node, by simp [g0], by simp [g5], by simp [g6], by simp, by omega, hc, by omega, fun h => absurd h (by omega), hnx⟩, by omega⟩
    · obtain ⟨p, hp, hpn⟩ := hlp (by omega)
      have w1 : IntKind.i64.wrap ((k : Int) - 1) = (k : Int) - 1 := w64 (by omega) (by omega)
      have e1 : ((k : Int) - 1).toNat = k - 1 := by omega
      have e2 : (0 : Int) ≤ (k : Int) - 1 := by omega
      have e3 : 0 < k := by omega
      have e4 : (1 : Int) ≤ (k : Int) := by omega
      by_cases h5 : c.node ≤ p.node
      · have hb1 := b1 (by omega)
        rcases hcase with ⟨q1, q2, q3⟩ | ⟨q1, q2⟩
        · simp -implicitDefEqProofs [h1, h2, q1, q2, q3, g0, g7, hj1, w1, e1, e2, e3, e4, hp, eC, h5, hb1]
        · simp -implicitDefEqProofs [h1, h2, q1, q2, g0, g7, hj1, w1, e1, e2, e3, e4, hp, eC, h5, hb1]
      · rw [hok (by omega), Bool.true_and] at hc
        have hnx : 0 < k + 1 → ∃ c0, l[k + 1 - 1]? = some c0 ∧ c0.node = c.node := fun _ => ⟨c, hx, rfl⟩
        rcases hcase with ⟨q1, q2, q3⟩ | ⟨q1, q2⟩
        · simp -implicitDefEqProofs [h1, h2, q1, q2, q3, g0, g7, hj1, w1, e1, e2, e3, e4, hp, eC, h5]
          exact ⟨⟨k + 1, c.node, by simp [g0], by simp [g5], by simp [g6], by simp, by omega, hc, by omega, fun h => absurd h (by omega), hnx⟩, by omega⟩
        · simp -implicitDefEqProofs [h1, h2, q1, q2, g0, g7, hj1, w1, e1, e2, e3, e4, hp, eC, h5]
          exact ⟨⟨k + 1, c.node, by simp [g0], by simp [g5], by simp [g6], by simp, by omega, hc, by omega, fun h => absurd h (by omega), hnx⟩, by omega⟩
  · have hk' : k = l.length := by omega
    subst hk'
    rw [List.drop_length, checkC] at hc
    simp -implicitDefEqProofs [← hc]
def Ck7I (l : List PEntry) (t : Nat → AV) (_ : Nat → Option (List AV)) : Prop := ∃ (k : Nat) (last : Int), t 0 = .sl .no (eEs l) ∧ t 5 = .sl .no (eEs l) ∧ t 6 = eI l.length ∧ t 7 = eI k ∧ k ≤ l.length ∧ checkE last (l.drop k) = checkE (-1) l ∧ -1 ≤ last ∧ (k = 0 → last = -1) ∧ (0 < k → ∃ c, l[k - 1]? = some c ∧ c.key = last)
theorem check7_spec (l : List PEntry) : ASpec Try.prog 89 [.sl .no (eEs l)] (· = eI (if checkE (-1) l = true then 0 else 71)) := by
  refine ASpec.of_awp Try.func89 (by kernel_rfl) rfl (by rw [Try.results89]) Try.ntmps89 ?_
  simp -implicitDefEqProofs
  intro hlen
  refine loopK.intro (Ck7I l) (fun t => l.length - natOf (t 7)) ?_ ?_
  · exact ⟨0, -1, by simp, by simp, by simp, by simp, by omega, by simp, by omega, fun _ => rfl, fun h => absurd h (by omega)⟩
  rintro t hh ⟨k, last, g0, g5, g6, g7, hk, hc, hl1, hl0, hlp⟩
  simp -implicitDefEqProofs [g6, g7]
  refine branch_dec (fun hlt => ?_) (fun hlt => ?_)
  · have hlt : k < l.length := by omega
    obtain ⟨c, hx⟩ : ∃ c, l[k]? = some c := ⟨l[k], by simp [hlt]⟩
    have hd : l.drop k = c :: l.drop (k + 1) := by
      rw [List.drop_eq_getElem_cons hlt]
      rw [List.getElem?_eq_getElem hlt] at hx
      injection hx with hx
      rw [hx]
    rw [hd, checkE] at hc
    have hj1 : IntKind.i64.wrap ((k : Int) + 1) = (k : Int) + 1 := w64 (by omega) (by omega)
    have bad : okE last c = false → checkE (-1) l = false := fun h => by rw [← hc, h]; rfl
    have b1 := fun h => bad (okE_1 last c h)
    have b2 := fun h => bad (okE_2 last c h)
    have b3 := fun h => bad (okE_3 last c h)
    have b4 := fun h => bad (okE_4 last c h)
    simp -implicitDefEqProofs [g5, g6, g7, hx, eE]
    refine allocK.intro (fun b hb => ?_)
    simp -implicitDefEqProofs [g5, g7, hx, eE]
    refine regionK.intro 35 follows_mixed (by kernel_rfl) ?_
    by_cases h1 : c.key < 0
    · simp -implicitDefEqProofs [h1, b1 (by omega)]
    by_cases h2 : 3 < c.key
    · simp -implicitDefEqProofs [h1, h2, b2 (by omega)]
    simp -implicitDefEqProofs [h1, h2]
    refine CallQ.with (right6_spec c.tag) (by simp [eT]) ?_
    cases h3 : rightT c.tag
    · simp -implicitDefEqProofs [h1, h2, b3 h3]
    by_cases h4 : c.tag.num = 0
    · simp -implicitDefEqProofs [h1, h2, h4, b4 h4]
    have hok : ¬ c.key ≤ last → okE last c = true := fun h => okE_5 last c h (by omega) h3 h4
    by_cases hk0 : k = 0
    · have hm := hl0 hk0
      rw [hok (by omega), Bool.true_and] at hc
      subst hk0
      have hnx : 0 < 1 → ∃ c0, l[1 - 1]? = some c0 ∧ c0.key = c.key := fun _ => ⟨c, hx, rfl⟩
      simp -implicitDefEqProofs [h1, h2, h4, g7, hj1, wr1]
      exact ⟨⟨1, c.key, by simp [g0], by simp [g5], by simp [g6], by simp, by omega, hc, by omega, fun h => absurd h (by omega), hnx⟩, by omega⟩
    · obtain ⟨p, hp, hpn⟩ := hlp (by omega)
      have w1 : IntKind.i64.wrap ((k : Int) - 1) = (k : Int) - 1 := w64 (by omega) (by omega)
      have e1 : ((k : Int) - 1).toNat = k - 1 := by omega
      have e2 : (0 : Int) ≤ (k : Int) - 1 := by omega
      have e3 : 0 < k := by omega
      have e4 : (1 : Int) ≤ (k : Int) := by omega
      by_cases h5 : c.key ≤ p.key
      · have hb1 := b1 (by omega)
        simp -implicitDefEqProofs [h1, h2, h4, g0, g7, hj1, w1, e1, e2, e3, e4, hp, eE, h5, hb1]
      · rw [hok (by omega), Bool.true_and] at hc
        have hnx : 0 < k + 1 → ∃ c0, l[k + 1 - 1]? = some c0 ∧ c0.key = c.key := fun _ => ⟨c, hx, rfl⟩
        simp -implicitDefEqProofs [h1, h2, h4, g0, g7, hj1, w1, e1, e2, e3, e4, hp, eE, h5]
        exact ⟨⟨k + 1, c.key, by simp [g0], by simp [g5], by simp [g6], by simp, by omega, hc, by omega, fun h => absurd h (by omega), hnx⟩, by omega⟩
  · have hk' : k = l.length := by omega
    subst hk'
    rw [List.drop_length, checkE] at hc
    simp -implicitDefEqProofs [← hc]
end Go.Proofs.Ytbgifnlaaophcaa

/- Contracts: messages, told otherwise. No condition. -/
set_option linter.unusedSimpArgs false
set_option linter.unusedVariables false
set_option maxRecDepth 10000
namespace Go.Proofs.Ytbgifnlaaophcaa
open Go Go.Rw Go.Proofs
-- a goal is never to be run by the elaborator
attribute [local irreducible] awp aops aop aopsE aeff

theorem same11_spec (x y : PMsg) (hx : fitM x) (hy : fitM y) : ASpec Try.prog 22 [.agg (eM x), .agg (eM y)] (· = .v (.bool (sameM x y))) := by
  refine ASpec.of_awp Try.func22 (by kernel_rfl) rfl (by rw [Try.results22]) Try.ntmps22 ?_
  simp -implicitDefEqProofs [eM]
  refine allocK.intro (fun b hb => ?_)
  simp -implicitDefEqProofs
  refine allocK.intro (fun b2 hb2 => ?_)
  have hbb : ¬ b = b2 := by rintro rfl; simp at hb2
  have hbb' : ¬ b2 = b := fun h => hbb h.symm
  by_cases h1 : x.kind = y.kind
  · by_cases h2 : x.frm = y.frm
    · by_cases h3 : x.to = y.to
      · by_cases h4 : x.inc = y.inc
        · by_cases h5 : x.seq = y.seq
          · by_cases h6 : x.view.add = y.view.add
            · by_cases h7 : x.view.del = y.view.del
              · have hh : headM x y = true := by simp [headM, h1, h2, h3, h4, h5, h6, h7]
                simp -implicitDefEqProofs [hbb, hbb', h1, h2, h3, h4, h5, h6, h7]
                refine CallK.eq (same10_spec x.cells y.cells) ?_
                by_cases h8 : x.cells = y.cells
                · simp -implicitDefEqProofs [hbb, hbb', h8]
                  refine CallK.eq (same7_spec x.book y.book hx hy) ?_
                  simp -implicitDefEqProofs [sameM, hh, h8]
                · simp -implicitDefEqProofs [hbb, hbb', h8, sameM]
              · have e7 : (x.view.del == y.view.del) = false := by simpa using h7
                simp -implicitDefEqProofs [hbb, hbb', h1, h2, h3, h4, h5, h6, h7, e7, sameM, headM]
            · have e6 : (x.view.add == y.view.add) = false := by simpa using h6
              simp -implicitDefEqProofs [hbb, hbb', h1, h2, h3, h4, h5, h6, e6, sameM, headM]
          · simp -implicitDefEqProofs [hbb, hbb', h1, h2, h3, h4, h5, sameM, headM]
        · simp -implicitDefEqProofs [hbb, hbb', h1, h2, h3, h4, sameM, headM]
      · simp -implicitDefEqProofs [hbb, hbb', h1, h2, h3, sameM, headM]
    · simp -implicitDefEqProofs [hbb, hbb', h1, h2, sameM, headM]
  · simp -implicitDefEqProofs [hbb, hbb', h1, sameM, headM]

theorem copy11_spec (m : PMsg) (h1 : m.cells.length * 24 ≤ 140737488355328) (h2 : m.book.length * 32 ≤ 140737488355328) : ASpec Try.prog 31 [.agg (eM m)] (· = .agg (eM m)) := by
  refine ASpec.of_awp Try.func31 (by kernel_rfl) rfl (by rw [Try.results31]) Try.ntmps31 ?_
  simp -implicitDefEqProofs [eM]
  refine allocK.intro (fun b hb => ?_)
  simp -implicitDefEqProofs
  refine allocK.intro (fun b2 hb2 => ?_)
  have hbb : ¬ b = b2 := by rintro rfl; simp at hb2
  have hbb' : ¬ b2 = b := fun h => hbb h.symm
  simp -implicitDefEqProofs [hbb, hbb']
  exact ⟨h1, h2, rfl⟩

set_option maxHeartbeats 2000000 in
theorem answers11_spec (q a : PMsg) : ASpec Try.prog 30 [.agg (eM q), .agg (eM a)] (· = .v (.bool (answersM q a))) := by
  refine ASpec.of_awp Try.func30 (by kernel_rfl) rfl (by rw [Try.results30]) Try.ntmps30 ?_
  simp -implicitDefEqProofs [eM]
  refine allocK.intro (fun b hb => ?_)
  simp -implicitDefEqProofs
  refine allocK.intro (fun b2 hb2 => ?_)
  have hbb : ¬ b = b2 := by rintro rfl; simp at hb2
  have hbb' : ¬ b2 = b := fun h => hbb h.symm
  simp -implicitDefEqProofs [hbb, hbb']
  have hcases : q.kind = 0 ∨ q.kind = 1 ∨ q.kind = 2 ∨ q.kind = 3 ∨ q.kind = 4 ∨ (¬ q.kind = 0 ∧ ¬ q.kind = 1 ∧ ¬ q.kind = 2 ∧ ¬ q.kind = 3 ∧ ¬ q.kind = 4) := by omega
  rcases hcases with k | k | k | k | k | ⟨k0, k1, k2, k3, k4⟩
  · by_cases ha : a.kind = 5
    · by_cases h0 : q.frm = a.to
      · by_cases h1 : q.to = a.frm
        · by_cases h2 : q.inc = a.inc
          · by_cases h3 : q.seq = a.seq
            · by_cases h4 : q.view.add = a.view.add
              · by_cases h5 : q.view.del = a.view.del
                · simp -implicitDefEqProofs [hbb, hbb', k, ha, h0, h1, h2, h3, h4, h5, answersM, kindN]
                · have h5' : ¬ a.view.del = q.view.del := fun h => h5 h.symm
                  have h5b : (q.view.del == a.view.del) = false := by simpa using h5
                  simp -implicitDefEqProofs [hbb, hbb', k, ha, h0, h1, h2, h3, h4, h5, h5', h5b, answersM, kindN]
              · have h4' : ¬ a.view.add = q.view.add := fun h => h4 h.symm
                have h4b : (q.view.add == a.view.add) = false := by simpa using h4
                simp -implicitDefEqProofs [hbb, hbb', k, ha, h0, h1, h2, h3, h4, h4', h4b, answersM, kindN]
            · have h3' : ¬ a.seq = q.seq := fun h => h3 h.symm
              simp -implicitDefEqProofs [hbb, hbb', k, ha, h0, h1, h2, h3, h3', answersM, kindN]
          · have h2' : ¬ a.inc = q.inc := fun h => h2 h.symm
            simp -implicitDefEqProofs [hbb, hbb', k, ha, h0, h1, h2, h2', answersM, kindN]
        · have h1' : ¬ a.frm = q.to := fun h => h1 h.symm
          simp -implicitDefEqProofs [hbb, hbb', k, ha, h0, h1, h1', answersM, kindN]
      · have h0' : ¬ a.to = q.frm := fun h => h0 h.symm
        simp -implicitDefEqProofs [hbb, hbb', k, ha, h0, h0', answersM, kindN]
    · simp -implicitDefEqProofs [hbb, hbb', k, ha, answersM, kindN]
  · by_cases ha : a.kind = 7
    · by_cases h0 : q.frm = a.to
      · by_cases h1 : q.to = a.frm
        · by_cases h2 : q.inc = a.inc
          · by_cases h3 : q.seq = a.seq
            · by_cases h4 : q.view.add = a.view.add
              · by_cases h5 : q.view.del = a.view.del
                · simp -implicitDefEqProofs [hbb, hbb', k, ha, h0, h1, h2, h3, h4, h5, answersM, kindN]
                · have h5' : ¬ a.view.del = q.view.del := fun h => h5 h.symm
                  have h5b : (q.view.del == a.view.del) = false := by simpa using h5
                  simp -implicitDefEqProofs [hbb, hbb', k, ha, h0, h1, h2, h3, h4, h5, h5', h5b, answersM, kindN]
              · have h4' : ¬ a.view.add = q.view.add := fun h => h4 h.symm
                have h4b : (q.view.add == a.view.add) = false := by simpa using h4
                simp -implicitDefEqProofs [hbb, hbb', k, ha, h0, h1, h2, h3, h4, h4', h4b, answersM, kindN]
            · have h3' : ¬ a.seq = q.seq := fun h => h3 h.symm
              simp -implicitDefEqProofs [hbb, hbb', k, ha, h0, h1, h2, h3, h3', answersM, kindN]
          · have h2' : ¬ a.inc = q.inc := fun h => h2 h.symm
            simp -implicitDefEqProofs [hbb, hbb', k, ha, h0, h1, h2, h2', answersM, kindN]
        · have h1' : ¬ a.frm = q.to := fun h => h1 h.symm
          simp -implicitDefEqProofs [hbb, hbb', k, ha, h0, h1, h1', answersM, kindN]
      · have h0' : ¬ a.to = q.frm := fun h => h0 h.symm
        simp -implicitDefEqProofs [hbb, hbb', k, ha, h0, h0', answersM, kindN]
    · simp -implicitDefEqProofs [hbb, hbb', k, ha, answersM, kindN]
  · by_cases ha : a.kind = 6
    · by_cases h0 : q.frm = a.to
      · by_cases h1 : q.to = a.frm
        · by_cases h2 : q.inc = a.inc
          · by_cases h3 : q.seq = a.seq
            · by_cases h4 : q.view.add = a.view.add
              · by_cases h5 : q.view.del = a.view.del
                · simp -implicitDefEqProofs [hbb, hbb', k, ha, h0, h1, h2, h3, h4, h5, answersM, kindN]
                · have h5' : ¬ a.view.del = q.view.del := fun h => h5 h.symm
                  have h5b : (q.view.del == a.view.del) = false := by simpa using h5
                  simp -implicitDefEqProofs [hbb, hbb', k, ha, h0, h1, h2, h3, h4, h5, h5', h5b, answersM, kindN]
              · have h4' : ¬ a.view.add = q.view.add := fun h => h4 h.symm
                have h4b : (q.view.add == a.view.add) = false := by simpa using h4
                simp -implicitDefEqProofs [hbb, hbb', k, ha, h0, h1, h2, h3, h4, h4', h4b, answersM, kindN]
            · have h3' : ¬ a.seq = q.seq := fun h => h3 h.symm
              simp -implicitDefEqProofs [hbb, hbb', k, ha, h0, h1, h2, h3, h3', answersM, kindN]
          · have h2' : ¬ a.inc = q.inc := fun h => h2 h.symm
            simp -implicitDefEqProofs [hbb, hbb', k, ha, h0, h1, h2, h2', answersM, kindN]
        · have h1' : ¬ a.frm = q.to := fun h => h1 h.symm
          simp -implicitDefEqProofs [hbb, hbb', k, ha, h0, h1, h1', answersM, kindN]
      · have h0' : ¬ a.to = q.frm := fun h => h0 h.symm
        simp -implicitDefEqProofs [hbb, hbb', k, ha, h0, h0', answersM, kindN]
    · simp -implicitDefEqProofs [hbb, hbb', k, ha, answersM, kindN]
  · by_cases ha : a.kind = 7
    · by_cases h0 : q.frm = a.to
      · by_cases h1 : q.to = a.frm
        · by_cases h2 : q.inc = a.inc
          · by_cases h3 : q.seq = a.seq
            · by_cases h4 : q.view.add = a.view.add
              · by_cases h5 : q.view.del = a.view.del
                · simp -implicitDefEqProofs [hbb, hbb', k, ha, h0, h1, h2, h3, h4, h5, answersM, kindN]
                · have h5' : ¬ a.view.del = q.view.del := fun h => h5 h.symm
                  have h5b : (q.view.del == a.view.del) = false := by simpa using h5
                  simp -implicitDefEqProofs [hbb, hbb', k, ha, h0, h1, h2, h3, h4, h5, h5', h5b, answersM, kindN]
              · have h4' : ¬ a.view.add = q.view.add := fun h => h4 h.symm
                have h4b : (q.view.add == a.view.add) = false := by simpa using h4
                simp -implicitDefEqProofs [hbb, hbb', k, ha, h0, h1, h2, h3, h4, h4', h4b, answersM, kindN]
            · have h3' : ¬ a.seq = q.seq := fun h => h3 h.symm
              simp -implicitDefEqProofs [hbb, hbb', k, ha, h0, h1, h2, h3, h3', answersM, kindN]
          · have h2' : ¬ a.inc = q.inc := fun h => h2 h.symm
            simp -implicitDefEqProofs [hbb, hbb', k, ha, h0, h1, h2, h2', answersM, kindN]
        · have h1' : ¬ a.frm = q.to := fun h => h1 h.symm
          simp -implicitDefEqProofs [hbb, hbb', k, ha, h0, h1, h1', answersM, kindN]
      · have h0' : ¬ a.to = q.frm := fun h => h0 h.symm
        simp -implicitDefEqProofs [hbb, hbb', k, ha, h0, h0', answersM, kindN]
    · simp -implicitDefEqProofs [hbb, hbb', k, ha, answersM, kindN]
  · by_cases ha : a.kind = 7
    · by_cases h0 : q.frm = a.to
      · by_cases h1 : q.to = a.frm
        · by_cases h2 : q.inc = a.inc
          · by_cases h3 : q.seq = a.seq
            · by_cases h4 : q.view.add = a.view.add
              · by_cases h5 : q.view.del = a.view.del
                · simp -implicitDefEqProofs [hbb, hbb', k, ha, h0, h1, h2, h3, h4, h5, answersM, kindN]
                · have h5' : ¬ a.view.del = q.view.del := fun h => h5 h.symm
                  have h5b : (q.view.del == a.view.del) = false := by simpa using h5
                  simp -implicitDefEqProofs [hbb, hbb', k, ha, h0, h1, h2, h3, h4, h5, h5', h5b, answersM, kindN]
              · have h4' : ¬ a.view.add = q.view.add := fun h => h4 h.symm
                have h4b : (q.view.add == a.view.add) = false := by simpa using h4
                simp -implicitDefEqProofs [hbb, hbb', k, ha, h0, h1, h2, h3, h4, h4', h4b, answersM, kindN]
            · have h3' : ¬ a.seq = q.seq := fun h => h3 h.symm
              simp -implicitDefEqProofs [hbb, hbb', k, ha, h0, h1, h2, h3, h3', answersM, kindN]
          · have h2' : ¬ a.inc = q.inc := fun h => h2 h.symm
            simp -implicitDefEqProofs [hbb, hbb', k, ha, h0, h1, h2, h2', answersM, kindN]
        · have h1' : ¬ a.frm = q.to := fun h => h1 h.symm
          simp -implicitDefEqProofs [hbb, hbb', k, ha, h0, h1, h1', answersM, kindN]
      · have h0' : ¬ a.to = q.frm := fun h => h0 h.symm
        simp -implicitDefEqProofs [hbb, hbb', k, ha, h0, h0', answersM, kindN]
    · simp -implicitDefEqProofs [hbb, hbb', k, ha, answersM, kindN]
  · have kk : ¬ (0 ≤ q.kind ∧ q.kind ≤ 4) := by omega
    simp -implicitDefEqProofs [hbb, hbb', k0, k1, k2, k3, k4, answersM]
    intro q1 q2
    exact absurd ⟨q1, q2⟩ kk
end Go.Proofs.Ytbgifnlaaophcaa

/- Contracts: messages that can be, told otherwise. No condition. -/
set_option linter.unusedSimpArgs false
set_option linter.unusedVariables false
set_option maxRecDepth 10000
namespace Go.Proofs.Ytbgifnlaaophcaa
open Go Go.Rw Go.Proofs
-- a goal is never to be run by the elaborator
attribute [local irreducible] awp aops aop aopsE aeff

theorem right_no {m : PMsg} (h : rightM m = true → False) : rightM m = false := by
  cases hr : rightM m
  · rfl
  · exact (h hr).elim
set_option maxHeartbeats 2000000 in
theorem right11_spec (m : PMsg) : ASpec Try.prog 28 [.agg (eM m)] (· = .v (.bool (rightM m))) := by
  refine ASpec.of_awp Try.func28 (by kernel_rfl) rfl (by rw [Try.results28]) Try.ntmps28 ?_
  simp -implicitDefEqProofs [eM]
  refine allocK.intro (fun b hb => ?_)
  by_cases h1 : m.kind < 0
  · have e := right_no (m := m) fun hr => by have := (rightM_of hr).kind; omega
    simp -implicitDefEqProofs [h1, e]
  by_cases h2 : 7 < m.kind
  · have e := right_no (m := m) fun hr => by have := (rightM_of hr).kind; omega
    simp -implicitDefEqProofs [h1, h2, e]
  by_cases h3 : m.frm < 0
  · have e := right_no (m := m) fun hr => by have := (rightM_of hr).frm; omega
    simp -implicitDefEqProofs [h1, h2, h3, e]
  by_cases h4 : 5 < m.frm
  · have e := right_no (m := m) fun hr => by have := (rightM_of hr).frm; omega
    simp -implicitDefEqProofs [h1, h2, h3, h4, e]
  by_cases h5 : m.to < 0
  · have e := right_no (m := m) fun hr => by have := (rightM_of hr).to; omega
    simp -implicitDefEqProofs [h1, h2, h3, h4, h5, e]
  by_cases h6 : 5 < m.to
  · have e := right_no (m := m) fun hr => by have := (rightM_of hr).to; omega
    simp -implicitDefEqProofs [h1, h2, h3, h4, h5, h6, e]
  by_cases h7 : m.inc < 1
  · have e := right_no (m := m) fun hr => by have := (rightM_of hr).inc; omega
    simp -implicitDefEqProofs [h1, h2, h3, h4, h5, h6, h7, e]
  by_cases h8 : 1000000 < m.inc
  · have e := right_no (m := m) fun hr => by have := (rightM_of hr).inc; omega
    simp -implicitDefEqProofs [h1, h2, h3, h4, h5, h6, h7, h8, e]
  by_cases h9 : m.seq < 1
  · have e := right_no (m := m) fun hr => by have := (rightM_of hr).seq; omega
    simp -implicitDefEqProofs [h1, h2, h3, h4, h5, h6, h7, h8, h9, e]
  by_cases h10 : 1000000 < m.seq
  · have e := right_no (m := m) fun hr => by have := (rightM_of hr).seq; omega
    simp -implicitDefEqProofs [h1, h2, h3, h4, h5, h6, h7, h8, h9, h10, e]
  have b1 : betweenB m.kind 0 7 = true := by simp [betweenB]; omega
  have b2 : betweenB m.frm 0 5 = true := by simp [betweenB]; omega
  have b3 : betweenB m.to 0 5 = true := by simp [betweenB]; omega
  have b4 : betweenB m.inc 1 1000000 = true := by simp [betweenB]; omega
  have b5 : betweenB m.seq 1 1000000 = true := by simp [betweenB]; omega
  have e : rightM m = ((decide (m.cells = []) || decide (m.kind = 1) || decide (m.kind = 5)) && (decide (m.book = []) || decide (m.kind = 3) || decide (m.kind = 6)) && rightV m.view && checkC (-1) m.cells && checkE (-1) m.book) := by
    simp only [rightM, b1, b2, b3, b4, b5, Bool.true_and]
  simp -implicitDefEqProofs [h1, h2, h3, h4, h5, h6, h7, h8, h9, h10]
  refine CallK.with (right4_spec m.view) (by simp [eV]) ?_
  cases hv : rightV m.view
  · have e2 : rightM m = false := by rw [e, hv]; simp
    simp -implicitDefEqProofs [e2]
  simp -implicitDefEqProofs
  refine CallK.eq (check10_spec m.cells) ?_
  cases hc : checkC (-1) m.cells
  · have e2 : rightM m = false := by rw [e, hc]; simp
    simp -implicitDefEqProofs [e2]
  simp -implicitDefEqProofs
  refine CallK.eq (check7_spec m.book) ?_
  cases hbk : checkE (-1) m.book
  · have e2 : rightM m = false := by rw [e, hbk]; simp
    simp -implicitDefEqProofs [e2]
  rw [hv, hc, hbk, Bool.and_true, Bool.and_true, Bool.and_true] at e
  rw [e]
  have hcl : m.cells = [] ∨ (¬ m.cells = [] ∧ ¬ (m.cells.length : Int) = 0) := by
    cases m.cells with
    | nil => exact .inl rfl
    | cons x l => exact .inr ⟨by simp, by simp only [List.length_cons]; omega⟩
  have hbl : m.book = [] ∨ (¬ m.book = [] ∧ ¬ (m.book.length : Int) = 0) := by
    cases m.book with
    | nil => exact .inl rfl
    | cons x l => exact .inr ⟨by simp, by simp only [List.length_cons]; omega⟩
  have hkk : m.kind = 1 ∨ m.kind = 5 ∨ m.kind = 3 ∨ m.kind = 6 ∨ (¬ m.kind = 1 ∧ ¬ m.kind = 5 ∧ ¬ m.kind = 3 ∧ ¬ m.kind = 6) := by omega
  rcases hkk with k | k | k | k | ⟨k1, k5, k3, k6⟩
  · rcases hbl with q | ⟨q, q2⟩ <;> simp -implicitDefEqProofs [*]
  · rcases hbl with q | ⟨q, q2⟩ <;> simp -implicitDefEqProofs [*]
  · rcases hcl with p | ⟨p, p2⟩ <;> simp -implicitDefEqProofs [*]
  · rcases hcl with p | ⟨p, p2⟩ <;> simp -implicitDefEqProofs [*]
  · rcases hcl with p | ⟨p, p2⟩
    · rcases hbl with q | ⟨q, q2⟩ <;> simp -implicitDefEqProofs [*]
    · simp -implicitDefEqProofs [*]
end Go.Proofs.Ytbgifnlaaophcaa

/- Contracts: frames of messages, told otherwise. No condition. -/
set_option linter.unusedSimpArgs false
set_option linter.unusedVariables false
set_option maxRecDepth 10000
namespace Go.Proofs.Ytbgifnlaaophcaa
open Go Go.Rw Go.Proofs
-- a goal is never to be run by the elaborator
attribute [local irreducible] awp aops aop aopsE aeff

theorem wuNat {n : Int} (h0 : 0 ≤ n) (h1 : n < 18446744073709551616) : IntKind.u64.wrap n = ((n.toNat : Nat) : Int) := by rw [wu64 h0 h1]; omega
def headU (m : PMsg) : List Nat := (headN m).map Int.toNat
theorem eU_int (ns : List Int) (h : ∀ n ∈ ns, 0 ≤ n) : ns.map (fun n => [AV.v (.int .u64 n)]) = eU (ns.map Int.toNat) := by
  simp only [eU, List.map_map]
  apply List.map_congr_left
  intro n hn
  have := h n hn
  simp only [Function.comp_def, encU]
  rw [Int.toNat_of_nonneg this]
theorem headU_rows {m : PMsg} (R : RightM m) : [[AV.v (.int .u64 m.kind)], [AV.v (.int .u64 m.frm)], [AV.v (.int .u64 m.to)], [AV.v (.int .u64 m.inc)], [AV.v (.int .u64 m.seq)], [AV.v (.int .u64 (nameV m.view))], [AV.v (.int .u64 m.cells.length)]] = eU (headU m) := by
  have hk := R.kind; have hfr := R.frm; have ht := R.to; have hi := R.inc; have hs := R.seq; have hv := nameV_lt R.view
  exact eU_int (headN m) (by simp [headN]; omega)
theorem cell_rows {c : PCell} (h0 : 0 ≤ c.node) (h1 : 0 ≤ nameV c.change) : [[AV.v (.int .u64 c.node)], [AV.v (.int .u64 (nameV c.change))]] = eU ((numC c).map Int.toNat) := eU_int (numC c) (by simp [numC]; omega)
def F11I (m : PMsg) (b : Nat) (t : Nat → AV) (h : Nat → Option (List AV)) : Prop := ∃ (k : Nat) (cur : List Nat) (tag : Tag), t 1 = .ptr b 0 ∧ t 37 = .sl .no (eCs m.cells) ∧ t 38 = eI m.cells.length ∧ t 39 = eI k ∧ t 4 = .sl tag (eU cur) ∧ appOK tag 102 1 ∧
  h b = some (eM m) ∧ k ≤ m.cells.length ∧ cur ++ numsC (m.cells.drop k) = headU m ++ numsC m.cells ∧ cur.length ≤ 7 + 2 * k
def F11M (m : PMsg) (b : Nat) (t : Nat → AV) (h : Nat → Option (List AV)) : Prop := ∃ (cur : List Nat) (tag : Tag), t 1 = .ptr b 0 ∧ t 4 = .sl tag (eU cur) ∧ appOK tag 102 1 ∧
  h b = some (eM m) ∧ cur = headU m ++ numsC m.cells ∧ cur.length ≤ 19
def F11J (m : PMsg) (t : Nat → AV) (h : Nat → Option (List AV)) : Prop := ∃ (k : Nat) (cur : List Nat) (tag : Tag), t 62 = .sl .no (eEs m.book) ∧ t 63 = eI m.book.length ∧ t 64 = eI k ∧ t 4 = .sl tag (eU cur) ∧ appOK tag 102 1 ∧
  k ≤ m.book.length ∧ cur ++ numsE (m.book.drop k) = numsM bitsF m ∧ cur.length ≤ 20 + 4 * k
theorem numsM_lt {m : PMsg} (R : RightM m) (hf : fitM m) : ∀ n ∈ numsM bitsF m, n < 18446744073709551616 := by
  have hk := R.kind; have hfr := R.frm; have ht := R.to; have hi := R.inc; have hs := R.seq; have hv := nameV_lt R.view
  have hcl := R.clen; have hbl := R.blen
  intro n hn
  simp only [numsM, List.mem_append, List.mem_map, List.mem_flatMap, List.mem_singleton] at hn
  rcases hn with ((⟨x, hx, rfl⟩ | ⟨c, hc, x, hx, rfl⟩) | rfl) | ⟨e, he, hx⟩
  · simp only [headN, List.mem_cons, List.not_mem_nil, or_false] at hx
    omega
  · obtain ⟨c1, c2, c3⟩ := R.cells c hc
    have := nameV_lt c3
    simp only [numC, List.mem_cons, List.not_mem_nil, or_false] at hx
    omega
  · omega
  · obtain ⟨c1, c2, c3⟩ := R.book e he
    have := rightT_of c3
    have hb := bitsF_lt (hf e he)
    simp only [numE, List.mem_cons, List.not_mem_nil, or_false] at hx
    omega
theorem frame11_spec (m : PMsg) (hf : fitM m) : ASpec Try.prog 27 [.agg (eM m)] (· = frameA (if rightM m = true then some (frameF bitsF m) else none)) := by
  refine ASpec.of_awp Try.func27 (by kernel_rfl) rfl (by rw [Try.results27]) Try.ntmps27 ?_
  simp -implicitDefEqProofs [eM]
  refine allocK.intro (fun b hb => ?_)
  simp -implicitDefEqProofs
  refine CallK.with (right11_spec m) (by simp [eM]) ?_
  cases hr : rightM m
  · simp -implicitDefEqProofs [frameA]
  have R := rightM_of hr
  have hk := R.kind; have hfr := R.frm; have ht := R.to; have hi := R.inc; have hs := R.seq; have hv := nameV_lt R.view
  have hcl := R.clen; have hbl := R.blen
  have w1 := wu64 hk.1 (by omega)
  have w2 := wu64 hfr.1 (by omega)
  have w3 := wu64 ht.1 (by omega)
  have w4 : IntKind.u64.wrap m.inc = m.inc := wu64 (by omega) (by omega)
  have w5 : IntKind.u64.wrap m.seq = m.seq := wu64 (by omega) (by omega)
  have w6 : IntKind.u64.wrap (nameV m.view) = nameV m.view := wu64 (by omega) (by omega)
  have w7 : IntKind.u64.wrap (m.cells.length : Int) = (m.cells.length : Int) := wu64 (by omega) (by omega)
  simp -implicitDefEqProofs
  refine regionK.intro 25 follows_mixed (by kernel_rfl) ?_
  simp -implicitDefEqProofs
  refine CallQ.with (name4_spec m.view R.view) (by simp [eV]) ?_
  simp -implicitDefEqProofs [w1, w2, w3, w4, w5, w6, w7]
  intro hlen
  refine loopK.post (F11I m b) (fun t => m.cells.length - natOf (t 39)) (F11M m b) ?_ ?_ ?_
  · exact ⟨0, headU m, _, by simp, by simp, by simp, by simp, by simp; exact ⟨rfl, headU_rows R⟩, by simp, by simp [eM], by omega, by simp, by simp [headU, headN]⟩
  · rintro t hh ⟨k, cur, tag, g1, g37, g38, g39, g4, gt, gb, hk', he, hc⟩
    simp -implicitDefEqProofs [g38, g39]
    refine branch_dec (fun hlt => ?_) (fun hlt => ?_)
    · have hlt : k < m.cells.length := by omega
      obtain ⟨c, hx⟩ : ∃ c, m.cells[k]? = some c := ⟨m.cells[k], by simp [hlt]⟩
      have hd : m.cells.drop k = c :: m.cells.drop (k + 1) := by
        rw [List.drop_eq_getElem_cons hlt]; rw [List.getElem?_eq_getElem hlt] at hx; rw [Option.some.inj hx]
      have hc3 := R.cells c (List.mem_of_getElem? hx)
      have hv2 := nameV_lt hc3.2.2
      have hj1 : IntKind.i64.wrap ((k : Int) + 1) = (k : Int) + 1 := w64 (by omega) (by omega)
      have v1 := wu64 hc3.1 (by omega)
      have v2 := wu64 hv2.1 (by omega)
      simp -implicitDefEqProofs [g37, g39, hx, eC]
      refine allocK.intro (fun b2 hb2 => ?_)
      have hbb : ¬ b = b2 := by rintro rfl; rw [gb] at hb2; simp at hb2
      have hbb' : ¬ b2 = b := fun h => hbb h.symm
      simp -implicitDefEqProofs [hbb, hbb']
      refine regionK.intro 10 follows_mixed (by kernel_rfl) ?_
      simp -implicitDefEqProofs [g4, gt]
      refine CallQ.with (name4_spec c.change hc3.2.2) (by simp [eV]) ?_
      simp -implicitDefEqProofs [g4, gt, v1, v2, g39, hj1]
      rw [cell_rows hc3.1 hv2.1, eU_append]
      refine ⟨by omega, ⟨k + 1, cur ++ (numC c).map Int.toNat, appTag tag 102 1 (eU ((numC c).map Int.toNat)), by simp [g1], by simp [g37], by simp [g38], by simp, by simp, by simp [gt], by simp [hbb, hbb', gb], by omega, ?_, ?_⟩, by omega⟩
      · rw [← he, hd, numsC_cons, List.append_assoc]
      · simp [numC]; omega
    · have hk2 : k = m.cells.length := by omega
      subst hk2
      simp -implicitDefEqProofs
      exact ⟨cur, tag, g1, g4, gt, gb, by simpa [numsC] using he, by omega⟩
  rintro t hh ⟨cur, tag, g1, g4, gt, gb, he, hc⟩
  have w8 : IntKind.u64.wrap (m.book.length : Int) = (m.book.length : Int) := wu64 (by omega) (by omega)
  simp -implicitDefEqProofs [g1, g4, gt, gb, eM, w8]
  intro _
  have hone : eU cur ++ [[AV.v (.int .u64 m.book.length)]] = eU (cur ++ [m.book.length]) := by simp [eU, encU]
  rw [hone]
  refine ⟨by omega, fun _ => ?_⟩
  refine loopK.intro (F11J m) (fun t => m.book.length - natOf (t 64)) ?_ ?_
  · exact ⟨0, cur ++ [m.book.length], appTag tag 102 1 [[AV.v (.int .u64 m.book.length)]], by simp, by simp, by simp, by simp, by simp [gt], by omega, by rw [he]; simp [numsM, headU, numsC, numsE], by simp; omega⟩
  clear g1 g4 gt gb
  rintro t2 hh2 ⟨k, cur, tag, g62, g63, g64, g4, gt, hk', he, hc⟩
  simp -implicitDefEqProofs [g63, g64]
  refine branch_dec (fun hlt => ?_) (fun hlt => ?_)
  · have hlt : k < m.book.length := by omega
    obtain ⟨x, hx⟩ : ∃ x, m.book[k]? = some x := ⟨m.book[k], by simp [hlt]⟩
    have hd : m.book.drop k = x :: m.book.drop (k + 1) := by
      rw [List.drop_eq_getElem_cons hlt]; rw [List.getElem?_eq_getElem hlt] at hx; rw [Option.some.inj hx]
    obtain ⟨x1, x2, x3⟩ := R.book x (List.mem_of_getElem? hx)
    have ht3 := rightT_of x3
    have hj1 : IntKind.i64.wrap ((k : Int) + 1) = (k : Int) + 1 := w64 (by omega) (by omega)
    have v1 := wu64 x1 (by omega)
    have v2 : IntKind.u64.wrap x.tag.num = x.tag.num := wu64 (by omega) (by omega)
    have v3 : IntKind.u64.wrap x.tag.node = x.tag.node := wu64 (by omega) (by omega)
    have hrow : [[AV.v (.int .u64 x.key)], [AV.v (.int .u64 x.tag.num)], [AV.v (.int .u64 x.tag.node)], [AV.v (.int .u64 (bitsF x.value))]] = eU (numE bitsF x) := by
      have := eU_int [x.key, x.tag.num, x.tag.node, (bitsF x.value : Int)] (by simp; omega)
      simpa [numE] using this
    simp -implicitDefEqProofs [g62, g64, hx, eE]
    refine allocK.intro (fun b2 hb2 => ?_)
    simp -implicitDefEqProofs
    refine regionK.intro 18 follows_mixed (by kernel_rfl) ?_
    simp -implicitDefEqProofs [g4, gt]
    refine CallQ.eq (bits1_spec x.value (hf x (List.mem_of_getElem? hx))) ?_
    simp -implicitDefEqProofs [g4, gt, v1, v2, v3, g64, hj1]
    rw [hrow, eU_append]
    refine ⟨by omega, ⟨k + 1, cur ++ numE bitsF x, appTag tag 102 1 (eU (numE bitsF x)), by simp [g62], by simp [g63], by simp, by simp, by simp [gt], by omega, ?_, ?_⟩, by omega⟩
    · rw [← he, hd, numsE_cons, List.append_assoc]
    · simp [numE]; omega
  · have hk2 : k = m.book.length := by omega
    subst hk2
    simp only [List.drop_length, numsE, List.flatMap_nil, List.append_nil] at he
    subst he
    have hlf := forms_length (ns := numsM bitsF m) (numsM_lt R hf)
    simp -implicitDefEqProofs [g4]
    have hput := put2_spec [] (numsM bitsF m) (numsM_lt R hf) (by simp; omega)
    refine CallK.of hput ?_
    rintro _ ⟨tag2, _, rfl⟩
    simp -implicitDefEqProofs
    refine CallK.of (seal3_spec (forms (numsM bitsF m)) (by omega)) ?_
    rintro _ ⟨tag3, _, rfl⟩
    simp -implicitDefEqProofs [frameA, frameF]
end Go.Proofs.Ytbgifnlaaophcaa

/- Plain laws: what is read is the frame of what was read. No condition. -/
set_option linter.unusedSimpArgs false
set_option linter.unusedVariables false
namespace Go.Proofs.Ytbgifnlaaophcaa
open Go Go.Proofs

theorem rdBits_of {r : Rd} (h : (rdBits r).2.2 = false) : r.2 = false ∧ r.1 = formF (rdBits r).1 ++ (rdBits r).2.1 := by
  unfold rdBits at h ⊢
  cases hg : getF r.1 with
  | none => rw [hg] at h; simp at h
  | some p =>
    obtain ⟨n, l⟩ := p
    rw [hg] at h
    by_cases hr : r.2 = true
    · simp [hr] at h
    · have hr' : r.2 = false := by simpa using hr
      refine ⟨hr', ?_⟩
      simp only [hr', Bool.false_eq_true, if_false]
      exact (getF_some hg).1
theorem rdInt_of {r : Rd} (h : (rdInt r).2.2 = false) : r.2 = false ∧ r.1 = formF (rdInt r).1.toNat ++ (rdInt r).2.1 := by
  unfold rdInt at h ⊢
  by_cases h1 : 1000000 < (rdBits r).1
  · rw [if_pos h1] at h; simp at h
  · rw [if_neg h1] at h ⊢
    exact rdBits_of h
theorem nameV_view {n : Int} (h : 0 ≤ n ∧ n < 4096) : nameV (viewN n) = n := by
  simp only [viewN, h, and_self, if_true, nameV]
  omega
theorem rdView_of {r : Rd} (h : (rdView r).2.2 = false) : r.2 = false ∧ r.1 = formF (nameV (rdView r).1).toNat ++ (rdView r).2.1 := by
  simp only [rdView, Bool.or_eq_false_iff, Bool.not_eq_false', decide_eq_true_eq] at h
  have := rdInt_of h.1
  simp only [rdView]
  rw [nameV_view h.2]
  exact this
theorem rdMany_of {m : Int} {r : Rd} (h : (rdMany m r).2.2 = false) : r.2 = false ∧ r.1 = formF (rdMany m r).1.toNat ++ (rdMany m r).2.1 := by
  unfold rdMany at h ⊢
  by_cases h1 : m < (rdInt r).1
  · rw [if_pos h1] at h; simp at h
  · rw [if_neg h1] at h ⊢
    exact rdInt_of h
theorem rdCell_of {r : Rd} (h : (rdCell r).2.2 = false) : r.2 = false ∧ r.1 = forms ((numC (rdCell r).1).map Int.toNat) ++ (rdCell r).2.1 := by
  simp only [rdCell] at h ⊢
  obtain ⟨h1, h2⟩ := rdView_of h
  obtain ⟨h3, h4⟩ := rdInt_of h1
  refine ⟨h3, ?_⟩
  rw [h4]
  conv => lhs; rw [h2]
  simp only [numC, List.map_cons, List.map_nil, forms_cons, forms_nil, List.append_nil, List.append_assoc]
theorem rdEntry_of {cl : Nat → Nat} (hcl : ∀ b, cl (cl b) = cl b) {r : Rd} (h : (rdEntry cl r).2.2 = false) : r.2 = false ∧ r.1 = forms (numE cl (rdEntry cl r).1) ++ (rdEntry cl r).2.1 := by
  simp only [rdEntry, Bool.or_eq_false_iff, Bool.not_eq_false', decide_eq_true_eq] at h ⊢
  obtain ⟨h1, h2⟩ := rdBits_of h.1
  obtain ⟨h3, h4⟩ := rdInt_of h1
  obtain ⟨h5, h6⟩ := rdInt_of h3
  obtain ⟨h7, h8⟩ := rdInt_of h5
  refine ⟨h7, ?_⟩
  simp only [numE]
  rw [h.2]
  conv => lhs; rw [h8, h6, h4, h2]
  simp only [forms_cons, forms_nil, List.append_nil, List.append_assoc]
theorem rdL_of {β : Type} {f : Rd → β × Rd} {num : β → List Nat} (hf : ∀ r, (f r).2.2 = false → r.2 = false ∧ r.1 = forms (num (f r).1) ++ (f r).2.1) :
    ∀ (k : Nat) (r : Rd), (rdL f k r).2.2 = false → r.2 = false ∧ r.1 = forms ((rdL f k r).1.flatMap num) ++ (rdL f k r).2.1
  | 0, r, h => by simpa [rdL] using h
  | k + 1, r, h => by
    simp only [rdL] at h ⊢
    obtain ⟨h1, h2⟩ := hf _ h
    obtain ⟨h3, h4⟩ := rdL_of hf k r h1
    refine ⟨h3, ?_⟩
    rw [h4]
    conv => lhs; rw [h2]
    simp only [List.flatMap_append, forms_append, List.append_assoc, List.flatMap_cons, List.flatMap_nil, List.append_nil]
theorem rdL_length {β : Type} (f : Rd → β × Rd) : ∀ (k : Nat) (r : Rd), (rdL f k r).1.length = k
  | 0, r => rfl
  | k + 1, r => by simp [rdL, rdL_length f k r]
attribute [local irreducible] rdInt rdBits rdL rdMany rdView getF
theorem read_some {cl : Nat → Nat} (hcl : ∀ b, cl (cl b) = cl b) {f : List UInt8} {m : PMsg} (h : readF cl f = some m) : rightM m = true ∧ frameF cl m = f := by
  unfold readF at h
  cases ho : openF f with
  | none => rw [ho] at h; simp at h
  | some b =>
    rw [ho] at h
    simp only at h
    by_cases hc : (rdEs cl (b, false)).2.2 = true ∨ 0 < (rdEs cl (b, false)).2.1.length ∨ rightM (rdMsg cl (b, false)) = false
    · rw [if_pos hc] at h; simp at h
    · rw [if_neg hc] at h
      obtain rfl := Option.some.inj h
      have c1 : (rdEs cl (b, false)).2.2 = false := by
        cases hq : (rdEs cl (b, false)).2.2
        · rfl
        · exact absurd (.inl hq) hc
      have c2 : (rdEs cl (b, false)).2.1 = [] := by
        cases hq : (rdEs cl (b, false)).2.1 with
        | nil => rfl
        | cons x l => exact absurd (.inr (.inl (by rw [hq]; simp))) hc
      have c3 : rightM (rdMsg cl (b, false)) = true := by
        cases hq : rightM (rdMsg cl (b, false))
        · exact absurd (.inr (.inr hq)) hc
        · rfl
      refine ⟨c3, ?_⟩
      generalize hr : ((b, false) : Rd) = r at *
      have hr1 : r.1 = b := by rw [← hr]
      obtain ⟨e1, e2⟩ := rdL_of (f := rdEntry cl) (num := numE cl) (fun r h => rdEntry_of hcl h) _ _ c1
      obtain ⟨e3, e4⟩ := rdMany_of e1
      obtain ⟨e5, e6⟩ := rdL_of (f := rdCell) (num := fun c => (numC c).map Int.toNat) (fun r h => rdCell_of h) _ _ e3
      obtain ⟨e7, e8⟩ := rdMany_of e5
      obtain ⟨e9, e10⟩ := rdView_of e7
      have st : ∀ k, (rdSt r (k + 1)).2 = false → (rdSt r k).2 = false ∧ (rdSt r k).1 = formF (rdVal r k).toNat ++ (rdSt r (k + 1)).1 := fun k hk => rdInt_of hk
      obtain ⟨s4, t4⟩ := st 4 e9
      obtain ⟨s3, t3⟩ := st 3 s4
      obtain ⟨s2, t2⟩ := st 2 s3
      obtain ⟨s1, t1⟩ := st 1 s2
      obtain ⟨s0, t0⟩ := st 0 s1
      have hb : r.1 = forms (numsM cl (rdMsg cl r)) := by
        have hn : numsM cl (rdMsg cl r) = [(rdVal r 0).toNat, (rdVal r 1).toNat, (rdVal r 2).toNat, (rdVal r 3).toNat, (rdVal r 4).toNat, (nameV (rdV r).1).toNat, (rdCs r).1.length] ++ ((rdCs r).1.flatMap (fun c => (numC c).map Int.toNat) ++ ([(rdEs cl r).1.length] ++ (rdEs cl r).1.flatMap (numE cl))) := by
          simp [numsM, headN, rdMsg, msgAt]
        have hl1 : (rdCs r).1.length = (rdNC r).1.toNat := rdL_length _ _ _
        have hl2 : (rdEs cl r).1.length = (rdNE r).1.toNat := rdL_length _ _ _
        have hc2 : (rdL (rdEntry cl) (rdNE r).1.toNat (rdNE r).2).2.1 = [] := c2
        rw [hc2] at e2
        have t0' : r.1 = formF (rdVal r 0).toNat ++ (rdSt r 1).1 := t0
        have e8' : (rdV r).2.1 = formF (rdNC r).1.toNat ++ (rdNC r).2.1 := e8
        have e10' : (rdSt r 5).1 = formF (nameV (rdV r).1).toNat ++ (rdV r).2.1 := e10
        have e6' : (rdNC r).2.1 = forms ((rdCs r).1.flatMap fun c => (numC c).map Int.toNat) ++ (rdCs r).2.1 := e6
        have e4' : (rdCs r).2.1 = formF (rdNE r).1.toNat ++ (rdNE r).2.1 := e4
        have e2' : (rdNE r).2.1 = forms ((rdEs cl r).1.flatMap (numE cl)) ++ [] := e2
        rw [t0', t1, t2, t3, t4, e10', e8', e6', e4', e2', hn, hl1, hl2]
        simp only [forms_append, forms_cons, forms_nil, List.append_nil, List.append_assoc]
      rw [frameF, ← hb, hr1]
      exact (openF_some ho).symm
end Go.Proofs.Ytbgifnlaaophcaa

/- Plain laws: a frame read as a list of numbers, then told again. No condition. -/
set_option linter.unusedSimpArgs false
set_option linter.unusedVariables false
namespace Go.Proofs.Ytbgifnlaaophcaa
open Go Go.Proofs

/-- at most so many numbers out of bytes -/
def getsF : Nat → List UInt8 → Option (List Nat)
  | 0, _ => some []
  | k + 1, l => if l = [] then some [] else match getF l with
    | none => none
    | some (n, r) => (getsF k r).map (n :: ·)
def atN (ns : List Nat) (i : Nat) : Int := match ns[i]? with
  | none => 1099511627776
  | some n => if 1099511627776 < n then 1099511627776 else n
def cntC (ns : List Nat) : Nat := min (atN ns 6).toNat 6
def posE (ns : List Nat) : Nat := 8 + 2 * cntC ns
def cntE (ns : List Nat) : Nat := min (atN ns (7 + 2 * cntC ns)).toNat 4
def cellN (ns : List Nat) (j : Nat) : PCell := ⟨atN ns (7 + 2 * j), viewN (atN ns (8 + 2 * j))⟩
def entryN (ns : List Nat) (p : Nat) : PEntry := ⟨atN ns p, ⟨atN ns (p + 1), atN ns (p + 2)⟩, (ns[p + 3]?).getD 0⟩
def cellsN (ns : List Nat) (k : Nat) : List PCell := (List.range k).map (cellN ns)
def bookN (ns : List Nat) (k : Nat) : List PEntry := (List.range k).map fun j => entryN ns (posE ns + 4 * j)
def msgN (ns : List Nat) : PMsg := ⟨atN ns 0, atN ns 1, atN ns 2, atN ns 3, atN ns 4, viewN (atN ns 5), cellsN ns (cntC ns), bookN ns (cntE ns)⟩
def readN (cl : Nat → Nat) (f : List UInt8) : Option PMsg := match openF f with
  | none => none
  | some b => match getsF 60 b with
    | none => none
    | some ns => if rightM (msgN ns) = true ∧ frameF cl (msgN ns) = f then some (msgN ns) else none

theorem getsF_lt : ∀ (k : Nat) (l : List UInt8) (ns : List Nat), getsF k l = some ns → ∀ n ∈ ns, n < 18446744073709551616
  | 0, l, ns, h => by simp [getsF] at h; subst h; simp
  | k + 1, l, ns, h => by
    simp only [getsF] at h
    by_cases hl : l = []
    · rw [if_pos hl] at h; obtain rfl := Option.some.inj h; simp
    · rw [if_neg hl] at h
      cases hg : getF l with
      | none => rw [hg] at h; simp at h
      | some p =>
        obtain ⟨n, r⟩ := p
        rw [hg] at h
        simp only [Option.map_eq_some_iff] at h
        obtain ⟨ms, hm, rfl⟩ := h
        intro x hx
        rcases List.mem_cons.1 hx with rfl | hx
        · exact (getF_some hg).2
        · exact getsF_lt k r ms hm x hx
theorem getsF_forms : ∀ (k : Nat) (ns : List Nat), (∀ n ∈ ns, n < 18446744073709551616) → ns.length ≤ k → getsF k (forms ns) = some ns
  | 0, ns, _, hk => by
    have : ns = [] := List.length_eq_zero_iff.1 (by omega)
    subst this; rfl
  | k + 1, [], _, _ => by simp [getsF]
  | k + 1, n :: ns, h, hk => by
    have h1 := getF_form (h n (by simp)) (forms ns)
    have h2 := getsF_forms k ns (fun x hx => h x (by simp [hx])) (by simp at hk; omega)
    have h3 : ¬ formF n ++ forms ns = [] := by simp [formF]
    rw [forms_cons, getsF, if_neg h3, h1]
    simp [h2]
theorem flat_get {α β : Type} (f : α → List β) (s : Nat) (hf : ∀ a, (f a).length = s) (t : Nat) (ht : t < s) : ∀ (l : List α) (j : Nat), (l.flatMap f)[s * j + t]? = (l[j]?).bind fun a => (f a)[t]?
  | [], j => by simp
  | a :: l, 0 => by
    rw [List.flatMap_cons, List.getElem?_append_left (by rw [hf]; omega)]
    simp
  | a :: l, j + 1 => by
    rw [List.flatMap_cons, List.getElem?_append_right (by rw [hf, Nat.mul_succ]; omega), hf]
    have : s * (j + 1) + t - s = s * j + t := by rw [Nat.mul_succ]; omega
    rw [this, flat_get f s hf t ht l j]
    simp
theorem atN_of {ns : List Nat} {i n : Nat} (h : ns[i]? = some n) (hn : n ≤ 1099511627776) : atN ns i = n := by
  have : ¬ 1099511627776 < n := by omega
  simp [atN, h, this]
theorem atN_int {ns : List Nat} {i : Nat} {n : Int} (h : ns[i]? = some n.toNat) (h0 : 0 ≤ n) (hn : n ≤ 1000000) : atN ns i = n := by
  rw [atN_of h (by omega)]; omega
theorem nums_split (cl : Nat → Nat) (m : PMsg) : numsM cl m = (headN m).map Int.toNat ++ (m.cells.flatMap (fun c => (numC c).map Int.toNat) ++ ([m.book.length] ++ m.book.flatMap (numE cl))) := by
  simp [numsM]
theorem nums_cell (cl : Nat → Nat) (m : PMsg) (j t : Nat) (ht : t < 2) (hj : j < m.cells.length) : (numsM cl m)[7 + (2 * j + t)]? = (m.cells[j]?).bind fun c => ((numC c).map Int.toNat)[t]? := by
  have hl : (m.cells.flatMap (fun c => (numC c).map Int.toNat)).length = 2 * m.cells.length := by
    have : ∀ l : List PCell, (l.flatMap (fun c => (numC c).map Int.toNat)).length = 2 * l.length := fun l => by
      induction l with
      | nil => rfl
      | cons c l ih => rw [List.flatMap_cons, List.length_append, ih]; simp [numC]; omega
    exact this _
  rw [nums_split, List.getElem?_append_right (by simp [headN])]
  have e : 7 + (2 * j + t) - ((headN m).map Int.toNat).length = 2 * j + t := by simp [headN]
  rw [e, List.getElem?_append_left (by rw [hl]; omega)]
  exact flat_get _ 2 (fun c => rfl) t ht m.cells j
theorem nums_cells_len (l : List PCell) : (l.flatMap (fun c => (numC c).map Int.toNat)).length = 2 * l.length := by
  induction l with
  | nil => rfl
  | cons c l ih => rw [List.flatMap_cons, List.length_append, ih]; simp [numC]; omega
theorem nums_count (cl : Nat → Nat) (m : PMsg) : (numsM cl m)[7 + 2 * m.cells.length]? = some m.book.length := by
  rw [nums_split, List.getElem?_append_right (by simp [headN]), List.getElem?_append_right (by rw [nums_cells_len]; simp [headN])]
  have e : 7 + 2 * m.cells.length - ((headN m).map Int.toNat).length - (m.cells.flatMap fun c => (numC c).map Int.toNat).length = 0 := by
    rw [nums_cells_len]; simp [headN]
  rw [e]
  rfl
theorem nums_entry (cl : Nat → Nat) (m : PMsg) (j t : Nat) (ht : t < 4) : (numsM cl m)[8 + 2 * m.cells.length + (4 * j + t)]? = (m.book[j]?).bind fun c => (numE cl c)[t]? := by
  rw [nums_split, List.getElem?_append_right (by simp [headN]; omega), List.getElem?_append_right (by rw [nums_cells_len]; simp [headN]; omega), List.getElem?_append_right (by rw [nums_cells_len]; simp [headN]; omega)]
  have e : 8 + 2 * m.cells.length + (4 * j + t) - ((headN m).map Int.toNat).length - (m.cells.flatMap fun c => (numC c).map Int.toNat).length - [m.book.length].length = 4 * j + t := by
    rw [nums_cells_len]; simp [headN]; omega
  rw [e]
  exact flat_get _ 4 (fun c => rfl) t ht m.book j
theorem msgN_nums {cl : Nat → Nat} {m : PMsg} (hr : rightM m = true) : msgN (numsM cl m) = cleanM cl m := by
  have R := rightM_of hr
  have hk := R.kind; have hf := R.frm; have ht := R.to; have hi := R.inc; have hs := R.seq; have hv := nameV_lt R.view
  have hcl6 := R.clen; have hb4 := R.blen
  have hh : ∀ (i : Nat) (x : Int), (headN m)[i]? = some x → (numsM cl m)[i]? = some x.toNat := by
    intro i x hx
    rw [nums_split, List.getElem?_append_left (by have := (List.getElem?_eq_some_iff.1 hx).1; simpa using this)]
    simp [hx]
  have a0 := atN_int (hh 0 m.kind rfl) hk.1 (by omega)
  have a1 := atN_int (hh 1 m.frm rfl) hf.1 (by omega)
  have a2 := atN_int (hh 2 m.to rfl) ht.1 (by omega)
  have a3 := atN_int (hh 3 m.inc rfl) (by omega) (by omega)
  have a4 := atN_int (hh 4 m.seq rfl) (by omega) (by omega)
  have a5 := atN_int (hh 5 (nameV m.view) rfl) hv.1 (by omega)
  have a6 := atN_int (hh 6 (m.cells.length : Int) rfl) (by omega) (by omega)
  have hcc : cntC (numsM cl m) = m.cells.length := by rw [cntC, a6]; omega
  have hce : cntE (numsM cl m) = m.book.length := by
    rw [cntE, hcc, atN_of (nums_count cl m) (by omega)]; omega
  have hcs : cellsN (numsM cl m) m.cells.length = m.cells := by
    apply List.ext_getElem?
    intro j
    by_cases hj : j < m.cells.length
    · obtain ⟨c, hc⟩ : ∃ c, m.cells[j]? = some c := ⟨m.cells[j], by simp [hj]⟩
      obtain ⟨q1, q2, q3⟩ := R.cells c (List.mem_of_getElem? hc)
      have hn := nameV_lt q3
      have n0 := nums_cell cl m j 0 (by omega) hj
      have n1 := nums_cell cl m j 1 (by omega) hj
      rw [hc] at n0 n1
      have b0 : atN (numsM cl m) (7 + 2 * j) = c.node := atN_int (by simpa [numC] using n0) q1 (by omega)
      have b1 : atN (numsM cl m) (8 + 2 * j) = nameV c.change := atN_int (by rw [show 8 + 2 * j = 7 + (2 * j + 1) by omega]; simpa [numC] using n1) hn.1 (by omega)
      rw [hc, cellsN, List.getElem?_map, List.getElem?_range hj]
      simp only [Option.map_some, cellN, b0, b1, viewN_name q3]
    · rw [List.getElem?_eq_none (by simp [cellsN]; omega), List.getElem?_eq_none (by omega)]
  have hbs : bookN (numsM cl m) m.book.length = m.book.map (cleanE cl) := by
    apply List.ext_getElem?
    intro j
    by_cases hj : j < m.book.length
    · obtain ⟨c, hc⟩ : ∃ c, m.book[j]? = some c := ⟨m.book[j], by simp [hj]⟩
      obtain ⟨q1, q2, q3⟩ := R.book c (List.mem_of_getElem? hc)
      have q4 := rightT_of q3
      have n0 := nums_entry cl m j 0 (by omega)
      have n1 := nums_entry cl m j 1 (by omega)
      have n2 := nums_entry cl m j 2 (by omega)
      have n3 := nums_entry cl m j 3 (by omega)
      rw [hc] at n0 n1 n2 n3
      have hp : posE (numsM cl m) = 8 + 2 * m.cells.length := by rw [posE, hcc]
      have b0 : atN (numsM cl m) (8 + 2 * m.cells.length + 4 * j) = c.key := atN_int (by simpa [numE] using n0) q1 (by omega)
      have b1 : atN (numsM cl m) (8 + 2 * m.cells.length + 4 * j + 1) = c.tag.num := atN_int (by rw [Nat.add_assoc]; simpa [numE] using n1) q4.1 (by omega)
      have b2 : atN (numsM cl m) (8 + 2 * m.cells.length + 4 * j + 2) = c.tag.node := atN_int (by rw [Nat.add_assoc]; simpa [numE] using n2) q4.2.2.1 (by omega)
      have b3 : (numsM cl m)[8 + 2 * m.cells.length + 4 * j + 3]? = some (cl c.value) := by rw [Nat.add_assoc]; simpa [numE] using n3
      rw [bookN, List.getElem?_map, List.getElem?_range hj, List.getElem?_map, hc]
      simp only [Option.map_some, entryN, hp, b0, b1, b2, b3, Option.getD_some, cleanE]
    · rw [List.getElem?_eq_none (by simp [bookN]; omega), List.getElem?_eq_none (by simp; omega)]
  simp only [msgN, a0, a1, a2, a3, a4, a5, hcc, hce, hcs, hbs, viewN_name R.view, cleanM]
end Go.Proofs.Ytbgifnlaaophcaa

/- Plain laws: the two readers answer alike. No condition. -/
set_option linter.unusedSimpArgs false
set_option linter.unusedVariables false
namespace Go.Proofs.Ytbgifnlaaophcaa
open Go Go.Proofs

theorem nums_lt {cl : Nat → Nat} {m : PMsg} (R : RightM m) (hf : ∀ x ∈ m.book, cl x.value < 18446744073709551616) : ∀ n ∈ numsM cl m, n < 18446744073709551616 := by
  have hk := R.kind; have hfr := R.frm; have ht := R.to; have hi := R.inc; have hs := R.seq; have hv := nameV_lt R.view
  have hcl := R.clen; have hbl := R.blen
  intro n hn
  simp only [numsM, List.mem_append, List.mem_map, List.mem_flatMap, List.mem_singleton] at hn
  rcases hn with ((⟨x, hx, rfl⟩ | ⟨c, hc, x, hx, rfl⟩) | rfl) | ⟨e, he, hx⟩
  · simp only [headN, List.mem_cons, List.not_mem_nil, or_false] at hx
    omega
  · obtain ⟨c1, c2, c3⟩ := R.cells c hc
    have := nameV_lt c3
    simp only [numC, List.mem_cons, List.not_mem_nil, or_false] at hx
    omega
  · omega
  · obtain ⟨c1, c2, c3⟩ := R.book e he
    have := rightT_of c3
    have hb := hf e he
    simp only [numE, List.mem_cons, List.not_mem_nil, or_false] at hx
    omega
theorem nums_length {cl : Nat → Nat} {m : PMsg} (R : RightM m) : (numsM cl m).length ≤ 60 := by
  have hcl := R.clen; have hbl := R.blen
  have hb : ∀ l : List PEntry, (l.flatMap (numE cl)).length = 4 * l.length := fun l => by
    induction l with
    | nil => rfl
    | cons c l ih => rw [List.flatMap_cons, List.length_append, ih]; simp [numE]; omega
  rw [nums_split, List.length_append, List.length_append, List.length_append, nums_cells_len, hb]
  simp [headN]
  omega
theorem rdL_mem {β : Type} (f : Rd → β × Rd) : ∀ (k : Nat) (r : Rd), ∀ x ∈ (rdL f k r).1, ∃ r', x = (f r').1
  | 0, r, x, h => by simp [rdL] at h
  | k + 1, r, x, h => by
    simp only [rdL, List.mem_append, List.mem_singleton] at h
    rcases h with h | rfl
    · exact rdL_mem f k r x h
    · exact ⟨_, rfl⟩
theorem read_fit {cl : Nat → Nat} (hlt : ∀ b, b < 18446744073709551616 → cl b < 18446744073709551616) {f : List UInt8} {m : PMsg} (h : readF cl f = some m) : ∀ x ∈ m.book, x.value < 18446744073709551616 := by
  unfold readF at h
  cases ho : openF f with
  | none => rw [ho] at h; simp at h
  | some b =>
    rw [ho] at h
    simp only at h
    by_cases hc : (rdEs cl (b, false)).2.2 = true ∨ 0 < (rdEs cl (b, false)).2.1.length ∨ rightM (rdMsg cl (b, false)) = false
    · rw [if_pos hc] at h; simp at h
    · rw [if_neg hc] at h
      obtain rfl := Option.some.inj h
      intro x hx
      obtain ⟨r', rfl⟩ := rdL_mem (rdEntry cl) _ _ x hx
      exact hlt _ (rdBits_len _).2
theorem nums_clean {cl : Nat → Nat} (hcl : ∀ b, cl (cl b) = cl b) (m : PMsg) : numsM cl (cleanM cl m) = numsM cl m := by
  have : ∀ l : List PEntry, (l.map (cleanE cl)).flatMap (numE cl) = l.flatMap (numE cl) := fun l => by
    induction l with
    | nil => rfl
    | cons c l ih => rw [List.map_cons, List.flatMap_cons, List.flatMap_cons, ih]; simp [numE, cleanE, hcl]
  rw [nums_split, nums_split]
  simp only [cleanM, this, List.length_map]
  rfl
theorem readN_eq {cl : Nat → Nat} (hcl : ∀ b, cl (cl b) = cl b) (hlt : ∀ b, b < 18446744073709551616 → cl b < 18446744073709551616) (f : List UInt8) : readN cl f = readF cl f := by
  cases hF : readF cl f with
  | some m =>
    obtain ⟨hr, hfr⟩ := read_some hcl hF
    have hfit := fun x hx => hlt _ (read_fit hlt hF x hx)
    have R := rightM_of hr
    have h1 := read_frame hcl hr hfit
    rw [hfr, hF] at h1
    have h2 : openF f = some (forms (numsM cl m)) := by rw [← hfr, frameF, openF_seal]
    have h3 := getsF_forms 60 (numsM cl m) (nums_lt R hfit) (nums_length R)
    have h4 : rightM (cleanM cl m) = true ∧ frameF cl (cleanM cl m) = f := ⟨by rw [rightM_clean]; exact hr, by rw [← hfr, frameF, frameF, nums_clean hcl]⟩
    unfold readN
    simp only [h2, h3, msgN_nums hr, if_pos h4]
    exact h1.symm
  | none =>
    unfold readN
    cases ho : openF f with
    | none => rfl
    | some b =>
      simp only
      cases hg : getsF 60 b with
      | none => rfl
      | some ns =>
        simp only
        by_cases hc : rightM (msgN ns) = true ∧ frameF cl (msgN ns) = f
        · exfalso
          have hfit : ∀ x ∈ (msgN ns).book, x.value < 18446744073709551616 := by
            intro x hx
            simp only [msgN, bookN, List.mem_map] at hx
            obtain ⟨j, _, rfl⟩ := hx
            simp only [entryN]
            cases hq : ns[posE ns + 4 * j + 3]? with
            | none => simp
            | some v => simpa using getsF_lt 60 b ns hg v (List.mem_of_getElem? hq)
          have := read_frame hcl hc.1 (fun x hx => hlt _ (hfit x hx))
          rw [hc.2, hF] at this
          simp at this
        · rw [if_neg hc]
end Go.Proofs.Ytbgifnlaaophcaa

/- Contracts: messages are read, told otherwise. No condition. -/
set_option linter.unusedSimpArgs false
set_option linter.unusedVariables false
set_option maxRecDepth 10000
namespace Go.Proofs.Ytbgifnlaaophcaa
open Go Go.Rw Go.Proofs
-- a goal is never to be run by the elaborator
attribute [local irreducible] awp aops aop aopsE aeff

theorem at_spec (ns : List Nat) (i : Nat) : ASpec Try.prog 69 [.sl .no (eU ns), eI i] (· = eI (atN ns i)) := by
  refine ASpec.of_awp Try.func69 (by kernel_rfl) rfl (by rw [Try.results69]) Try.ntmps69 ?_
  by_cases h1 : i < ns.length
  · obtain ⟨n, hn⟩ : ∃ n, ns[i]? = some n := ⟨ns[i], by simp [h1]⟩
    have h1' : ¬ (ns.length : Int) ≤ i := by omega
    by_cases h2 : 1099511627776 < n
    · have h2' : (1099511627776 : Int) < n := by omega
      simp -implicitDefEqProofs [h1', hn, encU, h2', atN]
      intro _ _
      omega
    · have h2' : ¬ (1099511627776 : Int) < n := by omega
      have w : IntKind.i64.wrap (n : Int) = n := w64 (by omega) (by omega)
      simp -implicitDefEqProofs [h1', hn, encU, h2', w, atN]
      try (intro _; simp -implicitDefEqProofs [h1', hn, encU, h2, h2', w, atN])
  · have h1' : (ns.length : Int) ≤ i := by omega
    have hn : ns[i]? = none := by simp; omega
    simp -implicitDefEqProofs [h1, h1', hn, atN]
end Go.Proofs.Ytbgifnlaaophcaa

/- Contracts: messages are read, told otherwise. No condition. -/
set_option linter.unusedSimpArgs false
set_option linter.unusedVariables false
set_option maxRecDepth 10000
namespace Go.Proofs.Ytbgifnlaaophcaa
open Go Go.Rw Go.Proofs
-- a goal is never to be run by the elaborator
attribute [local irreducible] awp aops aop aopsE aeff

def rowsIn (x : AV) : Nat := match x with | .sl _ rows => rows.length | _ => 0
@[simp] theorem rowsIn_sl (tag : Tag) (rows : List (List AV)) : rowsIn (.sl tag rows) = rows.length := rfl
theorem getsF_nil (k : Nat) : getsF k [] = some [] := by cases k <;> simp [getsF]
theorem getsF_none (k : Nat) {x : UInt8} {l : List UInt8} (h : getF (x :: l) = none) : getsF (k + 1) (x :: l) = none := by simp [getsF, h]
theorem getsF_some (k : Nat) {x : UInt8} {l r : List UInt8} {n : Nat} (h : getF (x :: l) = some (n, r)) : getsF (k + 1) (x :: l) = (getsF k r).map (n :: ·) := by simp [getsF, h]
theorem namedA_view (n : Int) : ∃ c : Int, namedA n = .tup [.agg (eV (viewN n)), eI c] := by
  unfold namedA viewN
  by_cases h : 0 ≤ n ∧ n < 4096
  · rw [if_pos h, if_pos h]; exact ⟨0, rfl⟩
  · rw [if_neg h, if_neg h]; exact ⟨41, rfl⟩
def R11I (f body : List UInt8) (b : Nat) (t : Nat → AV) (h : Nat → Option (List AV)) : Prop := ∃ (rest : List UInt8) (cur : List Nat) (tag : Tag), t 0 = .sl .no (eB f) ∧ t 2 = .ptr b 0 ∧ t 4 = .sl .no (eB rest) ∧ t 6 = .sl tag (eU cur) ∧ appOK tag 102 1 ∧
  h b = some (eMt .nil .nil zM) ∧ cur.length ≤ 60 ∧ rest.length ≤ body.length ∧ getsF 60 body = (getsF (60 - cur.length) rest).map (cur ++ ·)
def R11M (f body : List UInt8) (b : Nat) (t : Nat → AV) (h : Nat → Option (List AV)) : Prop := ∃ (cur : List Nat) (tag : Tag), t 0 = .sl .no (eB f) ∧ t 2 = .ptr b 0 ∧ t 6 = .sl tag (eU cur) ∧
  h b = some (eMt .nil .nil zM) ∧ cur.length ≤ 60 ∧ getsF 60 body = some cur
def msgK (cur : List Nat) (k j : Nat) : PMsg := ⟨atN cur 0, atN cur 1, atN cur 2, atN cur 3, atN cur 4, viewN (atN cur 5), cellsN cur k, bookN cur j⟩
def R11C (f : List UInt8) (cur : List Nat) (b bm : Nat) (tag : Tag) (t : Nat → AV) (h : Nat → Option (List AV)) : Prop := ∃ (k : Nat) (tc : Tag), t 0 = .sl .no (eB f) ∧ t 2 = .ptr b 0 ∧ t 6 = .sl tag (eU cur) ∧ t 10 = .ptr bm 0 ∧ t 11 = eI (7 + 2 * k) ∧ t 12 = eI k ∧
  h b = some (eMt .nil .nil zM) ∧ h bm = some (eMt tc .nil (msgK cur k 0)) ∧ appOK tc 47 3 ∧ k ≤ cntC cur
def R11D (f : List UInt8) (cur : List Nat) (b bm : Nat) (tag : Tag) (t : Nat → AV) (h : Nat → Option (List AV)) : Prop := ∃ (tc : Tag), t 0 = .sl .no (eB f) ∧ t 2 = .ptr b 0 ∧ t 6 = .sl tag (eU cur) ∧ t 10 = .ptr bm 0 ∧ t 11 = eI (7 + 2 * cntC cur) ∧
  h b = some (eMt .nil .nil zM) ∧ h bm = some (eMt tc .nil (msgK cur (cntC cur) 0))
theorem cellsN_succ (cur : List Nat) (k : Nat) : cellsN cur (k + 1) = cellsN cur k ++ [cellN cur k] := by simp [cellsN, List.range_succ]
theorem bookN_succ (cur : List Nat) (k : Nat) : bookN cur (k + 1) = bookN cur k ++ [entryN cur (posE cur + 4 * k)] := by simp [bookN, List.range_succ]
def R11E (f : List UInt8) (cur : List Nat) (b bm : Nat) (tag : Tag) (t : Nat → AV) (h : Nat → Option (List AV)) : Prop := ∃ (j : Nat) (tc te : Tag), t 0 = .sl .no (eB f) ∧ t 2 = .ptr b 0 ∧ t 6 = .sl tag (eU cur) ∧ t 10 = .ptr bm 0 ∧ t 11 = eI (posE cur + 4 * j : Nat) ∧ t 15 = eI (atN cur (7 + 2 * cntC cur)) ∧ t 16 = eI j ∧
  h b = some (eMt .nil .nil zM) ∧ h bm = some (eMt tc te (msgK cur (cntC cur) j)) ∧ appOK te 52 4 ∧ j ≤ cntE cur
def R11G (f : List UInt8) (cur : List Nat) (b bm b3 : Nat) (tag : Tag) (j : Nat) (t : Nat → AV) (h : Nat → Option (List AV)) : Prop := ∃ (tc te : Tag), t 0 = .sl .no (eB f) ∧ t 2 = .ptr b 0 ∧ t 6 = .sl tag (eU cur) ∧ t 10 = .ptr bm 0 ∧ t 11 = eI (posE cur + 4 * j : Nat) ∧ t 15 = eI (atN cur (7 + 2 * cntC cur)) ∧ t 16 = eI j ∧ t 17 = .ptr b3 0 ∧
          h b = some (eMt .nil .nil zM) ∧ h bm = some (eMt tc te (msgK cur (cntC cur) j)) ∧ appOK te 52 4 ∧ h b3 = some (eE (entryN cur (posE cur + 4 * j)))
def R11F (f : List UInt8) (cur : List Nat) (b bm : Nat) (t : Nat → AV) (h : Nat → Option (List AV)) : Prop := ∃ (tc te : Tag), t 0 = .sl .no (eB f) ∧ t 2 = .ptr b 0 ∧ t 10 = .ptr bm 0 ∧
  h b = some (eMt .nil .nil zM) ∧ h bm = some (eMt tc te (msgN cur))
theorem read11_spec (f : List UInt8) (hf : f.length ≤ 140737488355328) : ASpec Try.prog 21 [.sl .no (eB f)] (· = readA (readN bitsF f)) := by
  refine ASpec.of_awp Try.func21 (by kernel_rfl) rfl (by rw [Try.results21]) Try.ntmps21 ?_
  simp -implicitDefEqProofs
  refine allocK.intro (fun b hb => ?_)
  simp -implicitDefEqProofs
  refine CallK.eq (open3_spec f hf) ?_
  cases ho : openF f with
  | none => simp -implicitDefEqProofs [openA, readN, ho, readA, eM]
  | some body =>
    have hl := openF_len ho
    simp -implicitDefEqProofs [openA]
    refine loopK.post (R11I f body b) (fun t => 60 - rowsIn (t 6)) (R11M f body b) ?_ ?_ ?_
    · refine ⟨body, [], .full, by simp, by simp, by simp, by simp, by simp, by simp [eMt, zM], by simp, by omega, ?_⟩
      simp
    · rintro t hh ⟨rest, cur, tag, g0, g2, g4, g6, gt, gb, hc, hrl, he⟩
      cases rest with
      | nil =>
        simp -implicitDefEqProofs [g4, g6]
        exact ⟨cur, tag, by simp [g0], by simp [g2], by simp [g6], gb, hc, by rw [he, getsF_nil]; simp⟩
      | cons x l =>
        have p1 : ¬ (l.length : Int) + 1 ≤ 0 := by omega
        have p2 : (0 : Int) < (l.length : Int) + 1 := by omega
        by_cases h60 : cur.length < 60
        · have h60' : (cur.length : Int) < 60 := by omega
          simp -implicitDefEqProofs [g4, g6, p1, p2, h60']
          intro _ _
          refine CallK.eq (get2_spec (x :: l) (by omega)) ?_
          have hk : 60 - cur.length = (60 - (cur.length + 1)) + 1 := by omega
          cases hg : getF (x :: l) with
          | none =>
            rw [hk, getsF_none _ hg] at he
            have hn : readN bitsF f = none := by
              unfold readN
              simp only [ho, he, Option.map_none]
            simp -implicitDefEqProofs [getA, g2, gb, hn, readA, eM, eMt, zM]
          | some p =>
            obtain ⟨n, r⟩ := p
            have hr := (getF_len hg).1
            rw [hk, getsF_some _ hg] at he
            simp -implicitDefEqProofs [getA, g6, gt]
            have hone : eU cur ++ [[AV.v (.int .u64 n)]] = eU (cur ++ [n]) := by simp [eU, encU]
            rw [hone]
            refine ⟨by omega, ⟨r, cur ++ [n], appTag tag 102 1 [[AV.v (.int .u64 n)]], by simp [g0], by simp [g2], by simp, by simp, by simp [gt], gb, by rw [List.length_append, List.length_singleton]; omega, by omega, ?_⟩, ?_⟩
            rotate_left
            · omega
            rw [he]
            simp [Function.comp_def]
        · have h60' : ¬ (cur.length : Int) < 60 := by omega
          simp -implicitDefEqProofs [g4, g6, p1, p2, h60']
          intro _ _
          have hk : 60 - cur.length = 0 := by omega
          exact ⟨cur, tag, by simp [g0], by simp [g2], by simp [g6], gb, hc, by rw [he, hk]; simp [getsF]⟩
    rintro t hh ⟨cur, tag, g0, g2, g6, gb, hc, he⟩
    simp -implicitDefEqProofs [g6]
    refine CallK.with (at_spec cur 0) (by simp) ?_
    simp -implicitDefEqProofs [g6]
    refine CallK.with (at_spec cur 1) (by simp) ?_
    simp -implicitDefEqProofs [g6]
    refine CallK.with (at_spec cur 2) (by simp) ?_
    simp -implicitDefEqProofs [g6]
    refine CallK.with (at_spec cur 3) (by simp) ?_
    simp -implicitDefEqProofs [g6]
    refine CallK.with (at_spec cur 4) (by simp) ?_
    simp -implicitDefEqProofs [g6]
    refine allocK.intro (fun bm hbm => ?_)
    have h1 : ¬ b = bm := by rintro rfl; rw [gb] at hbm; simp at hbm
    have h1' : ¬ bm = b := fun h => h1 h.symm
    simp -implicitDefEqProofs [g6, h1, h1']
    refine CallK.with (at_spec cur 5) (by simp) ?_
    simp -implicitDefEqProofs [g6, h1, h1']
    refine CallK.eq (named4_spec (atN cur 5)) ?_
    obtain ⟨c5, hc5⟩ := namedA_view (atN cur 5)
    rw [hc5]
    simp -implicitDefEqProofs [g6, h1, h1', eV]
    refine loopK.post (R11C f cur b bm tag) (fun t => 6 - natOf (t 12)) (R11D f cur b bm tag) ?_ ?_ ?_
    · exact ⟨0, .nil, by simp [g0], by simp [g2], by simp [g6], by simp, by simp, by simp, by simp [h1, h1', gb], by simp [eMt, msgK, cellsN, bookN], by simp, by omega⟩
    · rintro t hh ⟨k, tc, q0, q2, q6, q10, q11, q12, qb, qbm, qt, hk⟩
      have hk6 : cntC cur ≤ 6 := by unfold cntC; omega
      by_cases hlt : k < cntC cur
      · have a1 : (k : Int) < atN cur 6 := by unfold cntC at hlt; omega
        have a2 : (k : Int) < 6 := by unfold cntC at hlt; omega
        have w1 : IntKind.i64.wrap (7 + 2 * (k : Int) + 1) = ((8 + 2 * k : Nat) : Int) := by rw [w64 (by omega) (by omega)]; omega
        have w2 : IntKind.i64.wrap (7 + 2 * (k : Int) + 2) = ((7 + 2 * (k + 1) : Nat) : Int) := by rw [w64 (by omega) (by omega)]; omega
        have w3 : IntKind.i64.wrap ((k : Int) + 1) = ((k + 1 : Nat) : Int) := by rw [w64 (by omega) (by omega)]; omega
        simp -implicitDefEqProofs [q12, q6]
        refine CallK.with (at_spec cur 6) (by simp) ?_
        simp -implicitDefEqProofs [q12, a1, a2, q6, q11, w1]
        refine CallK.with (at_spec cur (8 + 2 * k)) (by simp) ?_
        simp -implicitDefEqProofs
        refine CallK.eq (named4_spec (atN cur (8 + 2 * k))) ?_
        obtain ⟨c6, hc6⟩ := namedA_view (atN cur (8 + 2 * k))
        rw [hc6]
        simp -implicitDefEqProofs [eV]
        refine allocK.intro (fun b3 hb3 => ?_)
        have n1 : ¬ b = b3 := by rintro rfl; rw [qb] at hb3; simp at hb3
        have n1' : ¬ b3 = b := fun h => n1 h.symm
        have n2 : ¬ bm = b3 := by rintro rfl; rw [qbm] at hb3; simp at hb3
        have n2' : ¬ b3 = bm := fun h => n2 h.symm
        simp -implicitDefEqProofs [n1, n1', n2, n2']
        refine regionK.intro 9 follows_mixed (by kernel_rfl) ?_
        simp -implicitDefEqProofs [q10, q6, q11, n1, n1', n2, n2', qbm, eMt, qt]
        refine CallQ.with (at_spec cur (7 + 2 * k)) (by simp) ?_
        simp -implicitDefEqProofs [q10, q6, q11, q12, n1, n1', n2, n2', qbm, eMt, qt, w2, w3]
        have hl : (msgK cur k 0).cells.length = k := by simp [msgK, cellsN]
        refine ⟨by omega, ⟨k + 1, appTag tc 47 3 [eC (cellN cur k)], by simp [q0], by simp [q2], by simp [q6], by simp [q10], by simp, by simp, by simp [n1, n2, qb, h1, h1'], ?_, by simp [qt], by omega⟩, by omega⟩
        simp [eMt, msgK, cellsN_succ, eCs, eC, cellN, h1, h1', n2, n2']
      · by_cases hc : (k : Int) < atN cur 6
        · have a2 : ¬ (k : Int) < 6 := by unfold cntC at hlt; omega
          simp -implicitDefEqProofs [q12, q6]
          refine CallK.with (at_spec cur 6) (by simp) ?_
          simp -implicitDefEqProofs [q12, hc, a2, q6, q11]
          have hk' : k = cntC cur := by omega
          subst hk'
          exact ⟨tc, by simp [q0], by simp [q2], by simp [q6], by simp [q10], by simp [q11], qb, qbm⟩
        · simp -implicitDefEqProofs [q12, q6]
          refine CallK.with (at_spec cur 6) (by simp) ?_
          simp -implicitDefEqProofs [q12, hc, q6, q11]
          have hk' : k = cntC cur := by unfold cntC at hlt hk ⊢; omega
          subst hk'
          exact ⟨tc, by simp [q0], by simp [q2], by simp [q6], by simp [q10], by simp [q11], qb, qbm⟩
    rintro t hh ⟨tc, q0, q2, q6, q10, q11, qb, qbm⟩
    have hk6 : cntC cur ≤ 6 := by unfold cntC; omega
    have w1 : IntKind.i64.wrap (7 + 2 * ((cntC cur : Nat) : Int) + 1) = ((posE cur : Nat) : Int) := by rw [w64 (by omega) (by omega)]; unfold posE; omega
    simp -implicitDefEqProofs [q6, q11]
    refine CallK.with (at_spec cur (7 + 2 * cntC cur)) (by simp) ?_
    simp -implicitDefEqProofs [q6, q11, w1]
    refine loopK.post (R11E f cur b bm tag) (fun t => 4 - natOf (t 16)) (R11F f cur b bm) ?_ ?_ ?_
    · exact ⟨0, tc, .nil, by simp [q0], by simp [q2], by simp [q6], by simp [q10], by simp, by simp, by simp, qb, qbm, by simp, by omega⟩
    · clear q0 q2 q6 q10 q11 qb qbm
      rintro t hh ⟨j, tc, te, q0, q2, q6, q10, q11, q15, q16, qb, qbm, qt, hj⟩
      have hp : posE cur ≤ 20 := by unfold posE; omega
      have hj4 : cntE cur ≤ 4 := by unfold cntE; omega
      by_cases hlt : j < cntE cur
      · have a1 : (j : Int) < atN cur (7 + 2 * cntC cur) := by unfold cntE at hlt; omega
        have a2 : (j : Int) < 4 := by unfold cntE at hlt; omega
        have w2 : IntKind.i64.wrap (((posE cur : Nat) : Int) + 4 * (j : Int) + 1) = ((posE cur + 4 * j + 1 : Nat) : Int) := by rw [w64 (by omega) (by omega)]; omega
        have w3 : IntKind.i64.wrap (((posE cur : Nat) : Int) + 4 * (j : Int) + 2) = ((posE cur + 4 * j + 2 : Nat) : Int) := by rw [w64 (by omega) (by omega)]; omega
        have w4 : IntKind.i64.wrap (((posE cur : Nat) : Int) + 4 * (j : Int) + 3) = ((posE cur + 4 * j + 3 : Nat) : Int) := by rw [w64 (by omega) (by omega)]; omega
        have w5 : IntKind.i64.wrap (((posE cur : Nat) : Int) + 4 * (j : Int) + 4) = ((posE cur + 4 * (j + 1) : Nat) : Int) := by rw [w64 (by omega) (by omega)]; omega
        have w6 : IntKind.i64.wrap ((j : Int) + 1) = ((j + 1 : Nat) : Int) := by rw [w64 (by omega) (by omega)]; omega
        simp -implicitDefEqProofs [q15, q16, q6, q11, a1, a2]
        refine CallK.with (at_spec cur (posE cur + 4 * j)) (by simp) ?_
        simp -implicitDefEqProofs [q6, q11, w2]
        refine CallK.with (at_spec cur (posE cur + 4 * j + 1)) (by simp) ?_
        simp -implicitDefEqProofs [q6, q11, w3]
        refine CallK.with (at_spec cur (posE cur + 4 * j + 2)) (by simp) ?_
        simp -implicitDefEqProofs [q6, q11]
        refine allocK.intro (fun b3 hb3 => ?_)
        have n1 : ¬ b = b3 := by rintro rfl; rw [qb] at hb3; simp at hb3
        have n1' : ¬ b3 = b := fun h => n1 h.symm
        have n2 : ¬ bm = b3 := by rintro rfl; rw [qbm] at hb3; simp at hb3
        have n2' : ¬ b3 = bm := fun h => n2 h.symm
        simp -implicitDefEqProofs [q6, q11, n1, n1', n2, n2', w4]
        intro _
        have hm : natOf (t 16) = j := by rw [q16]; simp
        refine branch_join (R11G f cur b bm b3 tag j) ?_ ?_ ?_
        · intro hd
          have h3 : posE cur + 4 * j + 3 < cur.length := by have := of_decide_eq_true hd; omega
          obtain ⟨x, hx⟩ : ∃ x, cur[posE cur + 4 * j + 3]? = some x := ⟨cur[posE cur + 4 * j + 3], by simp [h3]⟩
          have p1 : (0 : Int) ≤ ((posE cur : Nat) : Int) + 4 * (j : Int) + 3 := by omega
          have p2 : (((posE cur : Nat) : Int) + 4 * (j : Int) + 3).toNat = posE cur + 4 * j + 3 := by omega
          simp -implicitDefEqProofs [q6, q11, w4, p1, p2, hx, encU]
          refine CallK.eq (f64from_spec x) ?_
          simp -implicitDefEqProofs [eF, n1, n1', n2, n2']
          exact ⟨tc, te, by simp [q0], by simp [q2], by simp [q6], by simp [q10], by simp [q11], by simp [q15], by simp [q16], by simp, by simp [n1, qb], by simp [n2, qbm], qt, by simp [eE, entryN, hx]⟩
        · intro hd
          have h3 : cur.length ≤ posE cur + 4 * j + 3 := by have := of_decide_eq_false hd; omega
          have hx : cur[posE cur + 4 * j + 3]? = none := by simp; omega
          simp -implicitDefEqProofs
          exact ⟨tc, te, by simp [q0], by simp [q2], by simp [q6], by simp [q10], by simp [q11], by simp [q15], by simp [q16], by simp, by simp [n1, qb], by simp [n2, qbm], qt, by simp [eE, entryN, hx]⟩
        · clear q0 q2 q6 q10 q11 q15 q16 qb qbm qt
          rintro t h ⟨tc, te, q0, q2, q6, q10, q11, q15, q16, q17, qb, qbm, qt, qb3⟩
          simp -implicitDefEqProofs [q10, qbm, eMt, q17, qb3, eE, qt, n1, n1', n2, n2', q11, w5, q16, w6]
          have hl : (msgK cur (cntC cur) j).book.length = j := by simp [msgK, bookN]
          refine ⟨by omega, ⟨j + 1, tc, appTag te 52 4 [eE (entryN cur (posE cur + 4 * j))], by simp [q0], by simp [q2], by simp [q6], by simp [q10], by simp, by simp [q15], by simp, by simp [qb, h1, h1'], ?_, by simp, by omega⟩, by omega⟩
          simp [eMt, msgK, bookN_succ, eEs, eE, h1, h1']
      · by_cases hc : (j : Int) < atN cur (7 + 2 * cntC cur)
        · have a2 : ¬ (j : Int) < 4 := by unfold cntE at hlt; omega
          simp -implicitDefEqProofs [q15, q16, hc, a2]
          have hj' : j = cntE cur := by omega
          subst hj'
          exact ⟨tc, te, by simp [q0], by simp [q2], by simp [q10], qb, qbm⟩
        · simp -implicitDefEqProofs [q15, q16, hc]
          have hj' : j = cntE cur := by unfold cntE at hlt hj ⊢; omega
          subst hj'
          exact ⟨tc, te, by simp [q0], by simp [q2], by simp [q10], qb, qbm⟩
    clear q0 q2 q6 q10 q11 qb qbm
    rintro t hh ⟨tc, te, q0, q2, q10, qb, qbm⟩
    have hfit : fitM (msgN cur) := by
      intro x hx
      simp only [msgN, bookN, List.mem_map] at hx
      obtain ⟨j, _, rfl⟩ := hx
      simp only [entryN]
      cases hq : cur[posE cur + 4 * j + 3]? with
      | none => simp
      | some v => simpa using getsF_lt 60 body cur he v (List.mem_of_getElem? hq)
    simp -implicitDefEqProofs [q10, qbm, eMt]
    refine CallK.with (frame11_spec (msgN cur) hfit) (by simp [eM]) ?_
    have hn : readN bitsF f = if rightM (msgN cur) = true ∧ frameF bitsF (msgN cur) = f then some (msgN cur) else none := by
      unfold readN
      simp only [ho, he]
    cases hr : rightM (msgN cur)
    · rw [hr] at hn
      simp -implicitDefEqProofs [frameA, q0, q2, qb, eMt, zM, hn, readA, eM]
    · rw [hr] at hn
      by_cases hff : frameF bitsF (msgN cur) = f
      · rw [if_pos ⟨rfl, hff⟩] at hn
        simp -implicitDefEqProofs [frameA, q0, q2, qb, q10, qbm, eMt, zM, hff, hn, readA, eM]
      · rw [if_neg (fun h => hff h.2)] at hn
        simp -implicitDefEqProofs [frameA, q0, q2, qb, q10, qbm, eMt, zM, hff, hn, readA, eM]
end Go.Proofs.Ytbgifnlaaophcaa

/- Contracts: a copy that may be written over. No condition. -/
set_option linter.unusedSimpArgs false
set_option linter.unusedVariables false
set_option maxRecDepth 10000
namespace Go.Proofs.Ytbgifnlaaophcaa
open Go Go.Rw Go.Proofs
-- a goal is never to be run by the elaborator
attribute [local irreducible] awp aops aop aopsE aeff

theorem clone_cells_new (l : List PCell) (hl : l.length * 24 ≤ 140737488355328) : ASpec Try.prog 90 [.sl .no (eCs l)] (New 47 3 (eCs l)) := by
  refine ASpec.of_awp Try.func90 (by kernel_rfl) rfl (by rw [Try.results90]) Try.ntmps90 ?_
  simp -implicitDefEqProofs
  refine nilK.intro (fun h => ?_) ?_
  · simp -implicitDefEqProofs [h]; exact .inl ⟨rfl, _, by simp, rfl⟩
  · simp -implicitDefEqProofs [hl]
    by_cases h : l = []
    · subst h; exact .inl ⟨rfl, _, by simp, rfl⟩
    · have h' : eCs l ≠ [] := by simpa [eCs] using h
      exact .inr ⟨h', by rw [appTag_full h']⟩
theorem clone_entries_new (l : List PEntry) (hl : l.length * 32 ≤ 140737488355328) : ASpec Try.prog 91 [.sl .no (eEs l)] (New 52 4 (eEs l)) := by
  refine ASpec.of_awp Try.func91 (by kernel_rfl) rfl (by rw [Try.results91]) Try.ntmps91 ?_
  simp -implicitDefEqProofs
  refine nilK.intro (fun h => ?_) ?_
  · simp -implicitDefEqProofs [h]; exact .inl ⟨rfl, _, by simp, rfl⟩
  · simp -implicitDefEqProofs [hl]
    by_cases h : l = []
    · subst h; exact .inl ⟨rfl, _, by simp, rfl⟩
    · have h' : eEs l ≠ [] := by simpa [eEs] using h
      exact .inr ⟨h', by rw [appTag_full h']⟩

theorem one_self (b : Nat) (c : List AV) : one b c b = some c := by simp [one_apply]
theorem upd_self {α : Type} (f : Nat → α) (b : Nat) (c : α) : upd f b c b = c := by simp [upd]
theorem upd_ne {α : Type} (f : Nat → α) {b k : Nat} (h : ¬ k = b) (c : α) : upd f b c k = f k := by simp [upd, h]
/-- a slice of one's own, so long -/
def OwnB (x : AV) (n sz : Nat) (h : Nat → Option (List AV)) : Prop := (n = 0 ∧ x = .sl .no []) ∨ ∃ b c cells, x = .sm b 0 n c ∧ h b = some cells ∧ n * sz ≤ cells.length
theorem eCs_flat (l : List PCell) : (eCs l).flatten.length = l.length * 3 := by simpa using flatten_length (eCs_one l)
theorem eEs_flat (l : List PEntry) : (eEs l).flatten.length = l.length * 4 := by simpa using flatten_length (eEs_one l)
/-- its object is not one of those that were there -/
def ObNe (x : AV) (b : Nat) : Prop := ∀ b' o n c, x = .sm b' o n c → ¬ b' = b
theorem ob_into {x : AV} {n sz : Nat} {H h' : Nat → Option (List AV)} (ho : OwnB x n sz h') (hn : ∀ b c, h' b = some c → H b = some c) : OwnB x n sz H := by
  rcases ho with ho | ⟨b', cc, cells, h1, h2, h3⟩
  · exact .inl ho
  · exact .inr ⟨b', cc, cells, h1, hn _ _ h2, h3⟩
theorem ob_ne {x : AV} {n sz : Nat} {H h' : Nat → Option (List AV)} (ho : OwnB x n sz h') (hf : ∀ b c, h' b = some c → H b = none) {b : Nat} {c : List AV} (hb : H b = some c) : ObNe x b := by
  intro b' o n' c' hx hbb
  subst hbb
  rcases ho with ⟨_, ho⟩ | ⟨b2, cc, cells, h1, h2, h3⟩
  · rw [hx] at ho; simp at ho
  · rw [hx] at h1
    injection h1 with e1 e2 e3 e4
    subst e1
    have := hf _ _ h2
    rw [hb] at this; simp at this
def CopyR (m : PMsg) (r : AV) (h' : Nat → Option (List AV)) : Prop := ∃ x1 x2, r = .agg [eI m.kind, eI m.frm, eI m.to, eI m.inc, eI m.seq, eI m.view.add, eI m.view.del, x1, x2] ∧ OwnB x1 m.cells.length 3 h' ∧ OwnB x2 m.book.length 4 h'
theorem copy_own (m : PMsg) (h1 : m.cells.length * 24 ≤ 140737488355328) (h2 : m.book.length * 32 ≤ 140737488355328) :
    MSpec Try.prog 29 [.agg (eM m)] (fun _ => none) (CopyR m) := by
  refine MSpec.of_awp Try.func29 (by kernel_rfl) rfl (by rw [Try.results29]) Try.ntmps29 ?_
  simp -implicitDefEqProofs [eM]
  refine allocK.intro (fun b hb => ?_)
  simp -implicitDefEqProofs
  refine allocK.intro (fun b2 hb2 => ?_)
  have hbb : ¬ b = b2 := by rintro rfl; simp at hb2
  have hbb' : ¬ b2 = b := fun h => hbb h.symm
  simp -implicitDefEqProofs [hbb, hbb']
  have fc := eCs_flat m.cells
  have fe := eEs_flat m.book
  refine CallK.thaw (clone_cells_new m.cells h1) rfl ?_
  rintro r (⟨h0, tag, htag, rfl⟩ | ⟨hne, rfl⟩)
  · left
    have hl0 : m.cells = [] := by simpa [eCs] using h0
    simp -implicitDefEqProofs [hbb, hbb']
    refine CallK.thaw (clone_entries_new m.book h2) rfl ?_
    rintro r (⟨h0, tag, htag, rfl⟩ | ⟨hne, rfl⟩)
    · left
      have hl1 : m.book = [] := by simpa [eEs] using h0
      simp -implicitDefEqProofs [hbb, hbb']
      exact ⟨fun _ => none, fun _ _ h => by simp at h, _, _, rfl, .inl ⟨by simp [hl0], rfl⟩, .inl ⟨by simp [hl1], rfl⟩⟩
    · right
      refine ⟨_, _, _, _, rfl, hne, .inl rfl, fun b3 cap spare hb3 hcap hsp => ?_⟩
      have n1 : ¬ b = b3 := by rintro rfl; simp [hbb] at hb3
      have n1' : ¬ b3 = b := fun h => n1 h.symm
      have n2 : ¬ b2 = b3 := by rintro rfl; simp [hbb'] at hb3
      have n2' : ¬ b3 = b2 := fun h => n2 h.symm
      simp -implicitDefEqProofs [hbb, hbb', n1, n1', n2, n2']
      refine ⟨one b3 ((eEs m.book).flatten.map dead1 ++ spare.map AV.v), SubH_one.2 ?_, _, _, rfl, .inl ⟨by simp [hl0], rfl⟩, .inr ⟨b3, cap, _, rfl, one_self _ _, ?_⟩⟩
      · simp [n1', n2', Weak.refl]
      · simp only [List.length_append, List.length_map]; omega
  · right
    refine ⟨_, _, _, _, rfl, hne, .inl rfl, fun b3 cap spare hb3 hcap hsp => ?_⟩
    have n1 : ¬ b = b3 := by rintro rfl; simp [hbb] at hb3
    have n1' : ¬ b3 = b := fun h => n1 h.symm
    have n2 : ¬ b2 = b3 := by rintro rfl; simp [hbb'] at hb3
    have n2' : ¬ b3 = b2 := fun h => n2 h.symm
    simp -implicitDefEqProofs [hbb, hbb', n1, n1', n2, n2']
    refine CallK.thaw (clone_entries_new m.book h2) rfl ?_
    rintro r (⟨h0, tag, htag, rfl⟩ | ⟨hne, rfl⟩)
    · left
      have hl1 : m.book = [] := by simpa [eEs] using h0
      simp -implicitDefEqProofs [hbb, hbb', n1, n1', n2, n2']
      refine ⟨one b3 ((eCs m.cells).flatten.map dead1 ++ spare.map AV.v), SubH_one.2 ?_, _, _, rfl, .inr ⟨b3, cap, _, rfl, one_self _ _, ?_⟩, .inl ⟨by simp [hl1], rfl⟩⟩
      · simp [n1', n2', Weak.refl]
      · simp only [List.length_append, List.length_map]; omega
    · right
      refine ⟨_, _, _, _, rfl, hne, .inl rfl, fun b4 cap4 spare4 hb4 hcap4 hsp4 => ?_⟩
      have m1 : ¬ b = b4 := by rintro rfl; simp [hbb, n1] at hb4
      have m1' : ¬ b4 = b := fun h => m1 h.symm
      have m2 : ¬ b2 = b4 := by rintro rfl; simp [n2, hbb'] at hb4
      have m2' : ¬ b4 = b2 := fun h => m2 h.symm
      have m3 : ¬ b3 = b4 := by rintro rfl; simp [n1, n2, n1', n2'] at hb4
      have m3' : ¬ b4 = b3 := fun h => m3 h.symm
      simp -implicitDefEqProofs [hbb, hbb', n1, n1', n2, n2', m1, m1', m2, m2', m3, m3']
      refine ⟨upd (one b3 ((eCs m.cells).flatten.map dead1 ++ spare.map AV.v)) b4 (some ((eEs m.book).flatten.map dead1 ++ spare4.map AV.v)), fun k c hk => ?_, _, _, rfl, .inr ⟨b3, cap, _, rfl, (upd_ne _ m3 _).trans (one_self _ _), ?_⟩, .inr ⟨b4, cap4, _, rfl, upd_self _ _ _, ?_⟩⟩
      · simp only [upd_apply, one_apply] at hk ⊢
        split at hk
        · rename_i hk4
          subst hk4
          obtain rfl := Option.some.inj hk
          exact ⟨_, by simp [m1', m2'], Weak.refl _⟩
        · split at hk
          · rename_i hk4 hk3
            subst hk3
            obtain rfl := Option.some.inj hk
            exact ⟨_, by simp [n1', n2', m3], Weak.refl _⟩
          · simp at hk
      · simp only [List.length_append, List.length_map]; omega
      · simp only [List.length_append, List.length_map]; omega
end Go.Proofs.Ytbgifnlaaophcaa

/- The law MsgTells, walked. No condition. -/
set_option linter.unusedSimpArgs false
set_option linter.unusedVariables false
set_option maxRecDepth 10000
namespace Go.Proofs.Ytbgifnlaaophcaa
open Go Go.Rw Go.Proofs
-- a goal is never to be run by the elaborator
attribute [local irreducible] awp aops aop aopsE aeff

theorem sameEs_self : ∀ l : List PEntry, sameEs l l = true
  | [] => rfl
  | x :: l => by rw [sameEs, sameEs_self l]; simp [sameE]
theorem sameM_self (m : PMsg) : sameM m m = true := by simp [sameM, headM, sameEs_self]
attribute [local irreducible] frameF readF rightM sameM answersM
theorem tells_spec (a b : PMsg) (ha : fitM a) (hb : fitM b) (h1 : a.cells.length ≤ 1048576) (h2 : a.book.length ≤ 1048576) : ASpec Try.prog 7 [.agg (eM a), .agg (eM b)] (· = .v (.bool true)) := by
  refine ASpec.of_awp Try.func7 (by kernel_rfl) rfl (by rw [Try.results7]) Try.ntmps7 ?_
  simp -implicitDefEqProofs [eM]
  refine allocK.intro (fun b1 hb1 => ?_)
  simp -implicitDefEqProofs
  refine allocK.intro (fun b2 hb2 => ?_)
  have hbb : ¬ b1 = b2 := by rintro rfl; simp at hb2
  have hbb' : ¬ b2 = b1 := fun h => hbb h.symm
  simp -implicitDefEqProofs [hbb, hbb']
  refine CallK.with (msg_frame a ha) (by simp [eM]) ?_
  obtain ⟨r, hr⟩ : ∃ r, (if rightM a = true then some (frameF bitsF a) else none) = r := ⟨_, rfl⟩
  rw [hr]
  obtain ⟨fr, c, hfc⟩ : ∃ (fr : List UInt8) (c : Int), frameA r = .tup [.sl .no (eB fr), eI c] := by
    cases r with
    | none => exact ⟨[], 111, rfl⟩
    | some l => exact ⟨l, 0, rfl⟩
  rw [hfc]
  simp -implicitDefEqProofs [hbb, hbb']
  refine CallK.with (frame11_spec a ha) (by simp [eM]) ?_
  rw [hr, hfc]
  simp -implicitDefEqProofs [hbb, hbb']
  refine regionK.intro 45 follows_mixed (by kernel_rfl) ?_
  simp -implicitDefEqProofs [hbb, hbb']
  refine CallQ.eq alive_spec ?_
  simp -implicitDefEqProofs [hbb, hbb']
  refine CallQ.with (msg_right a) (by simp [eM]) ?_
  simp -implicitDefEqProofs [hbb, hbb']
  refine CallQ.with (right11_spec a) (by simp [eM]) ?_
  simp -implicitDefEqProofs [hbb, hbb']
  refine CallQ.with (msg_same a b) (by simp [eM]) ?_
  simp -implicitDefEqProofs [hbb, hbb']
  refine CallQ.with (same11_spec a b ha hb) (by simp [eM]) ?_
  simp -implicitDefEqProofs [hbb, hbb']
  have hcp := msg_copy a (by omega) (by omega)
  refine CallQ.with hcp (by simp [eM]) ?_
  simp -implicitDefEqProofs [hbb, hbb', eM]
  refine CallQ.with (msg_same a a) (by simp [eM]) ?_
  rw [sameM_self]
  simp -implicitDefEqProofs [hbb, hbb']
  refine CallQ.with (msg_answers a b) (by simp [eM]) ?_
  simp -implicitDefEqProofs [hbb, hbb']
  refine CallQ.with (answers11_spec a b) (by simp [eM]) ?_
  simp -implicitDefEqProofs [hbb, hbb']
end Go.Proofs.Ytbgifnlaaophcaa

/- The law MsgReads, walked. No condition. -/
set_option linter.unusedSimpArgs false
set_option linter.unusedVariables false
set_option maxRecDepth 10000
namespace Go.Proofs.Ytbgifnlaaophcaa
open Go Go.Rw Go.Proofs
-- a goal is never to be run by the elaborator
attribute [local irreducible] awp aops aop aopsE aeff

theorem readA_form (o : Option PMsg) : ∃ (m : PMsg) (c : Int), readA o = .tup [.agg (eM m), eI c] ∧ (o = some m ∨ m = ⟨0, 0, 0, 0, 0, ⟨0, 0⟩, [], []⟩) := by
  cases o with
  | none => exact ⟨⟨0, 0, 0, 0, 0, ⟨0, 0⟩, [], []⟩, 111, rfl, .inr rfl⟩
  | some m => exact ⟨m, 0, rfl, .inl rfl⟩
attribute [local irreducible] frameF readF rightM sameM answersM
theorem reads_spec (f : List UInt8) (hf : f.length ≤ 1048576) : ASpec Try.prog 4 [.sl .no (eB f)] (· = .v (.bool true)) := by
  refine ASpec.of_awp Try.func4 (by kernel_rfl) rfl (by rw [Try.results4]) Try.ntmps4 ?_
  simp -implicitDefEqProofs
  refine ⟨by omega, ?_⟩
  refine CallK.eq (msg_read f (by omega)) ?_
  obtain ⟨m, c, hm, hor⟩ := readA_form (readF bitsF f)
  have hfit : fitM m := by
    rcases hor with h | rfl
    · exact read_fit (fun b hb => bitsF_lt hb) h
    · intro x hx; cases hx
  rw [hm]
  simp -implicitDefEqProofs [eM]
  refine allocK.intro (fun b1 hb1 => ?_)
  simp -implicitDefEqProofs
  refine CallK.eq (read11_spec f (by omega)) ?_
  rw [readN_eq bitsF_idem (fun b hb => bitsF_lt hb), hm]
  simp -implicitDefEqProofs [eM]
  refine allocK.intro (fun b2 hb2 => ?_)
  have hbb : ¬ b1 = b2 := by rintro rfl; simp at hb2
  have hbb' : ¬ b2 = b1 := fun h => hbb h.symm
  simp -implicitDefEqProofs [hbb, hbb']
  refine CallK.eq alive_spec ?_
  simp -implicitDefEqProofs [hbb, hbb']
  refine CallK.with (same11_spec m m hfit hfit) (by simp [eM]) ?_
  rw [sameM_self]
  simp -implicitDefEqProofs [hbb, hbb']
end Go.Proofs.Ytbgifnlaaophcaa

/- The law MsgApart, walked. No condition. -/
set_option linter.unusedSimpArgs false
set_option linter.unusedVariables false
set_option maxRecDepth 10000
namespace Go.Proofs.Ytbgifnlaaophcaa
open Go Go.Rw Go.Proofs
-- a goal is never to be run by the elaborator
attribute [local irreducible] awp aops aop aopsE aeff

theorem sameEs_cleanIff : ∀ (l m : List PEntry), sameEs l m = true ↔ l.map (cleanE bitsF) = m.map (cleanE bitsF)
  | [], [] => by simp [sameEs]
  | [], _ :: _ => by simp [sameEs]
  | _ :: _, [] => by simp [sameEs]
  | x :: l, y :: m => by
    rw [sameEs, List.map_cons, List.map_cons, List.cons.injEq, Bool.and_eq_true, sameEs_cleanIff l m]
    simp [sameE, cleanE, and_assoc]
theorem view_ext (a b : PView) : a = b ↔ a.add = b.add ∧ a.del = b.del := by cases a; cases b; simp
theorem sameM_cleanIff (a b : PMsg) : sameM a b = true ↔ cleanM bitsF a = cleanM bitsF b := by
  simp only [sameM, headM, Bool.and_eq_true, decide_eq_true_eq, sameEs_cleanIff, cleanM, PMsg.mk.injEq, view_ext, and_assoc]
theorem frame_same {a b : PMsg} (ha : rightM a = true) (hb : rightM b = true) (fa : fitM a) (fb : fitM b) : (frameF bitsF a = frameF bitsF b) ↔ sameM a b = true := by
  rw [sameM_cleanIff]
  constructor
  · intro h
    have h1 := read_frame2 ha fa
    rw [h, read_frame2 hb fb] at h1
    exact (Option.some.inj h1).symm
  · intro h
    rw [frameF, frameF, ← nums_clean bitsF_idem a, ← nums_clean bitsF_idem b, h]
attribute [local irreducible] frameF readF rightM sameM answersM
def eMx (m : PMsg) (x1 x2 : AV) : List AV := [eI m.kind, eI m.frm, eI m.to, eI m.inc, eI m.seq, eI m.view.add, eI m.view.del, x1, x2]
def ApB (a : PMsg) (b1 b4 b5 : Nat) (t : Nat → AV) (h : Nat → Option (List AV)) : Prop := ∃ x1 x2, t 2 = .ptr b1 0 ∧ t 9 = .ptr b4 0 ∧ t 10 = .ptr b5 0 ∧ h b1 = some (eM a) ∧ h b4 = some (eM a) ∧ h b5 = some (eMx a x1 x2) ∧
  (OwnB x1 a.cells.length 3 h ∧ OwnB x2 a.book.length 4 h) ∧ (ObNe x1 b1 ∧ ObNe x1 b4 ∧ ObNe x1 b5) ∧ (ObNe x2 b1 ∧ ObNe x2 b4 ∧ ObNe x2 b5)
def ApI (a : PMsg) (b1 b4 b5 : Nat) (t : Nat → AV) (h : Nat → Option (List AV)) : Prop := ∃ k : Nat, ApB a b1 b4 b5 t h ∧ t 48 = eI a.cells.length ∧ t 49 = eI k ∧ k ≤ a.cells.length
def ApJ (a : PMsg) (b1 b4 b5 : Nat) (t : Nat → AV) (h : Nat → Option (List AV)) : Prop := ∃ k : Nat, ApB a b1 b4 b5 t h ∧ t 60 = eI a.book.length ∧ t 61 = eI k ∧ k ≤ a.book.length
theorem ApB.set {a : PMsg} {b1 b4 b5 : Nat} {t t' : Nat → AV} {h : Nat → Option (List AV)} (hA : ApB a b1 b4 b5 t h) (h2 : t' 2 = t 2) (h9 : t' 9 = t 9) (h10 : t' 10 = t 10) : ApB a b1 b4 b5 t' h := by
  obtain ⟨x1, x2, q2, q9, q10, r⟩ := hA
  exact ⟨x1, x2, h2.trans q2, h9.trans q9, h10.trans q10, r⟩
theorem ob_upd {x : AV} {n sz : Nat} {h : Nat → Option (List AV)} (ho : OwnB x n sz h) {b : Nat} {c c' : List AV} (hb : h b = some c) (hl : c'.length = c.length) : OwnB x n sz (upd h b (some c')) := by
  rcases ho with ho | ⟨b', cc, cells, h1, h2, h3⟩
  · exact .inl ho
  · by_cases hbb : b' = b
    · subst hbb
      rw [h2] at hb
      obtain rfl := Option.some.inj hb
      exact .inr ⟨b', cc, c', h1, upd_self _ _ _, by omega⟩
    · exact .inr ⟨b', cc, cells, h1, (upd_ne _ hbb _).trans h2, h3⟩
def ApM (a : PMsg) (b1 : Nat) (t : Nat → AV) (h : Nat → Option (List AV)) : Prop := t 41 = .v (.bool false) ∧ t 2 = .ptr b1 0 ∧ h b1 = some (eM a)
theorem ApB.upd {a : PMsg} {b1 b4 b5 : Nat} {t : Nat → AV} {h : Nat → Option (List AV)} (hA : ApB a b1 b4 b5 t h) {b : Nat} {c c' : List AV} (hb : h b = some c) (hl : c'.length = c.length) (n1 : ¬ b1 = b) (n4 : ¬ b4 = b) (n5 : ¬ b5 = b) : ApB a b1 b4 b5 t (upd h b (some c')) := by
  obtain ⟨x1, x2, q2, q9, q10, r1, r4, r5, ⟨p1, p2⟩, r⟩ := hA
  exact ⟨x1, x2, q2, q9, q10, (upd_ne _ n1 _).trans r1, (upd_ne _ n4 _).trans r4, (upd_ne _ n5 _).trans r5, ⟨ob_upd p1 hb hl, ob_upd p2 hb hl⟩, r⟩
theorem ob_new {x : AV} {n sz : Nat} {h : Nat → Option (List AV)} (ho : OwnB x n sz h) {b : Nat} (hb : h b = none) : ObNe x b := by
  intro b' o n' c' hx hbb
  subst hbb
  rcases ho with ⟨_, ho⟩ | ⟨b2, cc, cells, h1, h2, h3⟩
  · rw [hx] at ho; simp at ho
  · rw [hx] at h1
    injection h1 with e1 e2 e3 e4
    subst e1
    rw [h2] at hb; simp at hb
theorem ob_cell {x : AV} {n sz : Nat} {h : Nat → Option (List AV)} (ho : OwnB x n sz h) : cellAV x = true ∧ keepNil x = x ∧ dead1 x = x := by
  rcases ho with ⟨_, rfl⟩ | ⟨b2, cc, cells, rfl, h2, h3⟩ <;> exact ⟨rfl, rfl, rfl⟩
theorem apart_spec (a b : PMsg) (ha : fitM a) (hb : fitM b) (h1 : a.cells.length ≤ 1048576) (h2 : a.book.length ≤ 1048576) : ASpec Try.prog 8 [.agg (eM a), .agg (eM b)] (· = .v (.bool true)) := by
  refine ASpec.of_awp Try.func8 (by kernel_rfl) rfl (by rw [Try.results8]) Try.ntmps8 ?_
  simp -implicitDefEqProofs [eM]
  refine allocK.intro (fun b1 hb1 => ?_)
  simp -implicitDefEqProofs
  refine allocK.intro (fun b2 hb2 => ?_)
  have hbb : ¬ b1 = b2 := by rintro rfl; simp at hb2
  have hbb' : ¬ b2 = b1 := fun h => hbb h.symm
  simp -implicitDefEqProofs [hbb, hbb']
  refine CallK.eq alive_spec ?_
  simp -implicitDefEqProofs [hbb, hbb']
  refine CallK.with (msg_frame a ha) (by simp [eM]) ?_
  obtain ⟨fa, ca, hfa, hra⟩ : ∃ (fa : List UInt8) (ca : Int), frameA (if rightM a = true then some (frameF bitsF a) else none) = .tup [.sl .no (eB fa), eI ca] ∧ (ca = 0 → rightM a = true ∧ fa = frameF bitsF a) := by
    cases hr : rightM a
    · exact ⟨[], 111, rfl, by omega⟩
    · exact ⟨_, 0, rfl, fun _ => ⟨rfl, rfl⟩⟩
  rw [hfa]
  simp -implicitDefEqProofs [hbb, hbb']
  refine CallK.with (msg_frame b hb) (by simp [eM]) ?_
  obtain ⟨fb, cb, hfb, hrb⟩ : ∃ (fb : List UInt8) (cb : Int), frameA (if rightM b = true then some (frameF bitsF b) else none) = .tup [.sl .no (eB fb), eI cb] ∧ (cb = 0 → rightM b = true ∧ fb = frameF bitsF b) := by
    cases hr : rightM b
    · exact ⟨[], 111, rfl, by omega⟩
    · exact ⟨_, 0, rfl, fun _ => ⟨rfl, rfl⟩⟩
  rw [hfb]
  simp -implicitDefEqProofs [hbb, hbb']
  refine regionK.cut (ApM a b1) ?_ ?_
  · refine regionK.intro 17 follows_mixed (by kernel_rfl) ?_
    by_cases hca : ca = 0
    · by_cases hcb : cb = 0
      · obtain ⟨r1, e1⟩ := hra hca
        obtain ⟨r2, e2⟩ := hrb hcb
        have hs := frame_same r1 r2 ha hb
        rw [← e1, ← e2] at hs
        have hd : decide (fa = fb) = sameM a b := by
          cases hq : sameM a b
          · rw [hq] at hs; simp at hs; simp [hs]
          · rw [hq] at hs; simp at hs; simp [hs]
        simp -implicitDefEqProofs [hbb, hbb', hca, hcb]
        refine CallQ.with (msg_same a b) (by simp [eM]) ?_
        simp -implicitDefEqProofs [hbb, hbb', hca, hcb, hd]
        exact ⟨by simp, by simp, by simp [hbb, eM]⟩
      · simp -implicitDefEqProofs [hbb, hbb', hca, hcb]
        exact ⟨by simp, by simp, by simp [hbb, eM]⟩
    · simp -implicitDefEqProofs [hbb, hbb', hca]
      exact ⟨by simp, by simp, by simp [hbb, eM]⟩
  clear hbb hbb' hb1 hb2
  rintro t h ⟨q41, q2, qb1⟩
  simp -implicitDefEqProofs [q41, q2, qb1, eM]
  refine CallK.with (copy11_spec a (by omega) (by omega)) (by simp [eM]) ?_
  simp -implicitDefEqProofs [eM]
  refine allocK.intro (fun b4 hb4 => ?_)
  have n1 : ¬ b1 = b4 := by rintro rfl; rw [qb1] at hb4; simp at hb4
  have n1' : ¬ b4 = b1 := fun h => n1 h.symm
  simp -implicitDefEqProofs [q2, qb1, n1, n1', eM]
  refine CallK.fresh (copy_own a (by omega) (by omega)) (by simp [eM]) ?_
  rintro r h' H ⟨x1, x2, rfl, o1, o2⟩ hold hnew hfr
  have k1 : H b1 = some (eM a) := hold b1 _ (by simp [n1, qb1])
  have k4 : H b4 = some (eM a) := hold b4 _ (by simp [eM])
  have p1 : OwnB x1 a.cells.length 3 H := ob_into o1 hnew
  have p2 : OwnB x2 a.book.length 4 H := ob_into o2 hnew
  have d1 : ObNe x1 b1 := ob_ne o1 hfr (c := eM a) (by simp [n1, qb1])
  have d2 : ObNe x2 b1 := ob_ne o2 hfr (c := eM a) (by simp [n1, qb1])
  have d3 : ObNe x1 b4 := ob_ne o1 hfr (c := eM a) (by simp [eM])
  have d4 : ObNe x2 b4 := ob_ne o2 hfr (c := eM a) (by simp [eM])
  clear hold hnew hfr
  simp -implicitDefEqProofs [eM, k1, k4]
  refine allocK.intro (fun b5 hb5 => ?_)
  have n2 : ¬ b1 = b5 := by rintro rfl; rw [k1] at hb5; simp at hb5
  have n2' : ¬ b5 = b1 := fun h => n2 h.symm
  have n3 : ¬ b4 = b5 := by rintro rfl; rw [k4] at hb5; simp at hb5
  have n3' : ¬ b5 = b4 := fun h => n3 h.symm
  have d5 := ob_new p1 hb5
  have d6 := ob_new p2 hb5
  obtain ⟨c11, c12, c13⟩ := ob_cell p1
  obtain ⟨c21, c22, c23⟩ := ob_cell p2
  have hA : ∀ t' : Nat → AV, t' 2 = .ptr b1 0 → t' 9 = .ptr b4 0 → t' 10 = .ptr b5 0 → ApB a b1 b4 b5 t' (upd H b5 (some (eMx a x1 x2))) := fun t' w2 w9 w10 =>
    ⟨x1, x2, w2, w9, w10, (upd_ne _ n2 _).trans k1, (upd_ne _ n3 _).trans k4, upd_self _ _ _,
      ⟨ob_into p1 fun b c hb => by
        have : ¬ b = b5 := by rintro rfl; rw [hb5] at hb; simp at hb
        simp [this, hb], ob_into p2 fun b c hb => by
        have : ¬ b = b5 := by rintro rfl; rw [hb5] at hb; simp at hb
        simp [this, hb]⟩, ⟨d1, d3, d5⟩, d2, d4, d6⟩
  have hup : ∀ z z' : Option (List AV), upd (upd H b5 z) b5 z' = upd H b5 z' := fun z z' => by funext k; simp only [upd]; split <;> rfl
  have hlen : ∀ x1 : AV, OwnB x1 a.cells.length 3 H → (x1 = .sl .no [] → a.cells.length = 0) := fun x1 ho hx => by
    rcases ho with ⟨h, _⟩ | ⟨b2, cc, cells, h, _⟩
    · exact h
    · rw [hx] at h; simp at h
  rcases id p1 with ⟨z1, rfl⟩ | ⟨c1, cc1, cells1, rfl, hc1, hl1⟩ <;> rcases id p2 with ⟨z2, rfl⟩ | ⟨c2, cc2, cells2, rfl, hc2, hl2⟩ <;> simp -implicitDefEqProofs [n2, n2', n3, n3', eM]
  all_goals try intro _
  · refine loopK.post (ApI a b1 b4 b5) (fun t => a.cells.length - natOf (t 49)) (ApB a b1 b4 b5) ?_ ?_ ?_
    · exact ⟨0, by rw [hup]; exact hA _ (by simp [q2]) (by simp) (by simp), by simp [z1], by simp, by omega⟩
    · clear q2 hA
      rintro t h ⟨k, ⟨x1, x2, q2, q9, q10, kb1, kb4, kb5, ⟨p1, p2⟩, ⟨e1, e2, e3⟩, e4⟩, q48, q49, hk⟩
      by_cases hlt : (k : Int) < a.cells.length
      · rcases id p1 with ⟨z, _⟩ | ⟨c, cc, cells, rfl, hc, hl⟩
        · omega
        have f1 : ¬ b1 = c := fun e => e1 c 0 _ _ rfl e.symm
        have f4 : ¬ b4 = c := fun e => e2 c 0 _ _ rfl e.symm
        have f5 : ¬ b5 = c := fun e => e3 c 0 _ _ rfl e.symm
        have hw : IntKind.i64.wrap ((k : Int) + 1) = ((k + 1 : Nat) : Int) := by rw [w64 (by omega) (by omega)]; omega
        simp -implicitDefEqProofs [q48, q49, hlt, q10, kb5, eMx, hc, hw]
        refine ⟨by omega, ⟨k + 1, ApB.upd (t := t) ⟨_, x2, q2, q9, q10, kb1, kb4, kb5, ⟨p1, p2⟩, ⟨e1, e2, e3⟩, e4⟩ hc (by simp; omega) f1 f4 f5 |>.set (by simp) (by simp) (by simp), by simp [q48], by simp, by omega⟩, by omega⟩
      · simp -implicitDefEqProofs [q48, q49, hlt]
        exact ApB.set (t := t) ⟨x1, x2, q2, q9, q10, kb1, kb4, kb5, ⟨p1, p2⟩, ⟨e1, e2, e3⟩, e4⟩ (by simp) (by simp) (by simp)
    clear q2 hA
    rintro t h ⟨x1, x2, q2, q9, q10, kb1, kb4, kb5, ⟨p1, p2⟩, e1, e4⟩
    rcases id p2 with ⟨z2, rfl⟩ | ⟨c2, cc2, cells2, rfl, hc2, hl2⟩
    · simp -implicitDefEqProofs [q10, kb5, eMx]
      refine loopK.intro (ApJ a b1 b4 b5) (fun t => a.book.length - natOf (t 61)) ?_ ?_
      · exact ⟨0, ApB.set (t := t) ⟨x1, _, q2, q9, q10, kb1, kb4, kb5, ⟨p1, p2⟩, e1, e4⟩ (by simp) (by simp) (by simp), by simp [z2], by simp, by omega⟩
      clear q2 q9 q10 kb1 kb4 kb5 p1 p2 e1 e4
      rintro t h ⟨k, ⟨x1, x2, q2, q9, q10, kb1, kb4, kb5, ⟨p1, p2⟩, e4, ⟨e1, e2, e3⟩⟩, q60, q61, hk⟩
      by_cases hlt : (k : Int) < a.book.length
      · rcases id p2 with ⟨z, _⟩ | ⟨c, cc, cells, rfl, hc, hl⟩
        · omega
        have f1 : ¬ b1 = c := fun e => e1 c 0 _ _ rfl e.symm
        have f4 : ¬ b4 = c := fun e => e2 c 0 _ _ rfl e.symm
        have f5 : ¬ b5 = c := fun e => e3 c 0 _ _ rfl e.symm
        have hw : IntKind.i64.wrap ((k : Int) + 1) = ((k + 1 : Nat) : Int) := by rw [w64 (by omega) (by omega)]; omega
        simp -implicitDefEqProofs [q60, q61, hlt, q10, kb5, eMx, hc, hw]
        refine ⟨by omega, ⟨k + 1, ApB.upd (t := t) ⟨x1, _, q2, q9, q10, kb1, kb4, kb5, ⟨p1, p2⟩, e4, ⟨e1, e2, e3⟩⟩ hc (by simp; omega) f1 f4 f5 |>.set (by simp) (by simp) (by simp), by simp [q60], by simp, by omega⟩, by omega⟩
      · simp -implicitDefEqProofs [q60, q61, hlt]
        simp -implicitDefEqProofs [q2, q9, kb1, kb4, eM]
        refine CallK.with (same11_spec a a ha ha) (by simp [eM]) ?_
        rw [sameM_self]
        simp -implicitDefEqProofs
    · simp -implicitDefEqProofs [q10, kb5, eMx]
      intro _
      refine loopK.intro (ApJ a b1 b4 b5) (fun t => a.book.length - natOf (t 61)) ?_ ?_
      · exact ⟨0, ApB.set (t := t) ⟨x1, _, q2, q9, q10, kb1, kb4, kb5, ⟨p1, p2⟩, e1, e4⟩ (by simp) (by simp) (by simp), by simp, by simp, by omega⟩
      clear q2 q9 q10 kb1 kb4 kb5 p1 p2 e1 e4
      rintro t h ⟨k, ⟨x1, x2, q2, q9, q10, kb1, kb4, kb5, ⟨p1, p2⟩, e4, ⟨e1, e2, e3⟩⟩, q60, q61, hk⟩
      by_cases hlt : (k : Int) < a.book.length
      · rcases id p2 with ⟨z, _⟩ | ⟨c, cc, cells, rfl, hc, hl⟩
        · omega
        have f1 : ¬ b1 = c := fun e => e1 c 0 _ _ rfl e.symm
        have f4 : ¬ b4 = c := fun e => e2 c 0 _ _ rfl e.symm
        have f5 : ¬ b5 = c := fun e => e3 c 0 _ _ rfl e.symm
        have hw : IntKind.i64.wrap ((k : Int) + 1) = ((k + 1 : Nat) : Int) := by rw [w64 (by omega) (by omega)]; omega
        simp -implicitDefEqProofs [q60, q61, hlt, q10, kb5, eMx, hc, hw]
        refine ⟨by omega, ⟨k + 1, ApB.upd (t := t) ⟨x1, _, q2, q9, q10, kb1, kb4, kb5, ⟨p1, p2⟩, e4, ⟨e1, e2, e3⟩⟩ hc (by simp; omega) f1 f4 f5 |>.set (by simp) (by simp) (by simp), by simp [q60], by simp, by omega⟩, by omega⟩
      · simp -implicitDefEqProofs [q60, q61, hlt]
        simp -implicitDefEqProofs [q2, q9, kb1, kb4, eM]
        refine CallK.with (same11_spec a a ha ha) (by simp [eM]) ?_
        rw [sameM_self]
        simp -implicitDefEqProofs
  · refine loopK.post (ApI a b1 b4 b5) (fun t => a.cells.length - natOf (t 49)) (ApB a b1 b4 b5) ?_ ?_ ?_
    · exact ⟨0, by rw [hup]; exact hA _ (by simp [q2]) (by simp) (by simp), by simp [z1], by simp, by omega⟩
    · clear q2 hA
      rintro t h ⟨k, ⟨x1, x2, q2, q9, q10, kb1, kb4, kb5, ⟨p1, p2⟩, ⟨e1, e2, e3⟩, e4⟩, q48, q49, hk⟩
      by_cases hlt : (k : Int) < a.cells.length
      · rcases id p1 with ⟨z, _⟩ | ⟨c, cc, cells, rfl, hc, hl⟩
        · omega
        have f1 : ¬ b1 = c := fun e => e1 c 0 _ _ rfl e.symm
        have f4 : ¬ b4 = c := fun e => e2 c 0 _ _ rfl e.symm
        have f5 : ¬ b5 = c := fun e => e3 c 0 _ _ rfl e.symm
        have hw : IntKind.i64.wrap ((k : Int) + 1) = ((k + 1 : Nat) : Int) := by rw [w64 (by omega) (by omega)]; omega
        simp -implicitDefEqProofs [q48, q49, hlt, q10, kb5, eMx, hc, hw]
        refine ⟨by omega, ⟨k + 1, ApB.upd (t := t) ⟨_, x2, q2, q9, q10, kb1, kb4, kb5, ⟨p1, p2⟩, ⟨e1, e2, e3⟩, e4⟩ hc (by simp; omega) f1 f4 f5 |>.set (by simp) (by simp) (by simp), by simp [q48], by simp, by omega⟩, by omega⟩
      · simp -implicitDefEqProofs [q48, q49, hlt]
        exact ApB.set (t := t) ⟨x1, x2, q2, q9, q10, kb1, kb4, kb5, ⟨p1, p2⟩, ⟨e1, e2, e3⟩, e4⟩ (by simp) (by simp) (by simp)
    clear q2 hA
    rintro t h ⟨x1, x2, q2, q9, q10, kb1, kb4, kb5, ⟨p1, p2⟩, e1, e4⟩
    rcases id p2 with ⟨z2, rfl⟩ | ⟨c2, cc2, cells2, rfl, hc2, hl2⟩
    · simp -implicitDefEqProofs [q10, kb5, eMx]
      refine loopK.intro (ApJ a b1 b4 b5) (fun t => a.book.length - natOf (t 61)) ?_ ?_
      · exact ⟨0, ApB.set (t := t) ⟨x1, _, q2, q9, q10, kb1, kb4, kb5, ⟨p1, p2⟩, e1, e4⟩ (by simp) (by simp) (by simp), by simp [z2], by simp, by omega⟩
      clear q2 q9 q10 kb1 kb4 kb5 p1 p2 e1 e4
      rintro t h ⟨k, ⟨x1, x2, q2, q9, q10, kb1, kb4, kb5, ⟨p1, p2⟩, e4, ⟨e1, e2, e3⟩⟩, q60, q61, hk⟩
      by_cases hlt : (k : Int) < a.book.length
      · rcases id p2 with ⟨z, _⟩ | ⟨c, cc, cells, rfl, hc, hl⟩
        · omega
        have f1 : ¬ b1 = c := fun e => e1 c 0 _ _ rfl e.symm
        have f4 : ¬ b4 = c := fun e => e2 c 0 _ _ rfl e.symm
        have f5 : ¬ b5 = c := fun e => e3 c 0 _ _ rfl e.symm
        have hw : IntKind.i64.wrap ((k : Int) + 1) = ((k + 1 : Nat) : Int) := by rw [w64 (by omega) (by omega)]; omega
        simp -implicitDefEqProofs [q60, q61, hlt, q10, kb5, eMx, hc, hw]
        refine ⟨by omega, ⟨k + 1, ApB.upd (t := t) ⟨x1, _, q2, q9, q10, kb1, kb4, kb5, ⟨p1, p2⟩, e4, ⟨e1, e2, e3⟩⟩ hc (by simp; omega) f1 f4 f5 |>.set (by simp) (by simp) (by simp), by simp [q60], by simp, by omega⟩, by omega⟩
      · simp -implicitDefEqProofs [q60, q61, hlt]
        simp -implicitDefEqProofs [q2, q9, kb1, kb4, eM]
        refine CallK.with (same11_spec a a ha ha) (by simp [eM]) ?_
        rw [sameM_self]
        simp -implicitDefEqProofs
    · simp -implicitDefEqProofs [q10, kb5, eMx]
      intro _
      refine loopK.intro (ApJ a b1 b4 b5) (fun t => a.book.length - natOf (t 61)) ?_ ?_
      · exact ⟨0, ApB.set (t := t) ⟨x1, _, q2, q9, q10, kb1, kb4, kb5, ⟨p1, p2⟩, e1, e4⟩ (by simp) (by simp) (by simp), by simp, by simp, by omega⟩
      clear q2 q9 q10 kb1 kb4 kb5 p1 p2 e1 e4
      rintro t h ⟨k, ⟨x1, x2, q2, q9, q10, kb1, kb4, kb5, ⟨p1, p2⟩, e4, ⟨e1, e2, e3⟩⟩, q60, q61, hk⟩
      by_cases hlt : (k : Int) < a.book.length
      · rcases id p2 with ⟨z, _⟩ | ⟨c, cc, cells, rfl, hc, hl⟩
        · omega
        have f1 : ¬ b1 = c := fun e => e1 c 0 _ _ rfl e.symm
        have f4 : ¬ b4 = c := fun e => e2 c 0 _ _ rfl e.symm
        have f5 : ¬ b5 = c := fun e => e3 c 0 _ _ rfl e.symm
        have hw : IntKind.i64.wrap ((k : Int) + 1) = ((k + 1 : Nat) : Int) := by rw [w64 (by omega) (by omega)]; omega
        simp -implicitDefEqProofs [q60, q61, hlt, q10, kb5, eMx, hc, hw]
        refine ⟨by omega, ⟨k + 1, ApB.upd (t := t) ⟨x1, _, q2, q9, q10, kb1, kb4, kb5, ⟨p1, p2⟩, e4, ⟨e1, e2, e3⟩⟩ hc (by simp; omega) f1 f4 f5 |>.set (by simp) (by simp) (by simp), by simp [q60], by simp, by omega⟩, by omega⟩
      · simp -implicitDefEqProofs [q60, q61, hlt]
        simp -implicitDefEqProofs [q2, q9, kb1, kb4, eM]
        refine CallK.with (same11_spec a a ha ha) (by simp [eM]) ?_
        rw [sameM_self]
        simp -implicitDefEqProofs
  · refine loopK.post (ApI a b1 b4 b5) (fun t => a.cells.length - natOf (t 49)) (ApB a b1 b4 b5) ?_ ?_ ?_
    · exact ⟨0, by rw [hup]; exact hA _ (by simp [q2]) (by simp) (by simp), by simp, by simp, by omega⟩
    · clear q2 hA
      rintro t h ⟨k, ⟨x1, x2, q2, q9, q10, kb1, kb4, kb5, ⟨p1, p2⟩, ⟨e1, e2, e3⟩, e4⟩, q48, q49, hk⟩
      by_cases hlt : (k : Int) < a.cells.length
      · rcases id p1 with ⟨z, _⟩ | ⟨c, cc, cells, rfl, hc, hl⟩
        · omega
        have f1 : ¬ b1 = c := fun e => e1 c 0 _ _ rfl e.symm
        have f4 : ¬ b4 = c := fun e => e2 c 0 _ _ rfl e.symm
        have f5 : ¬ b5 = c := fun e => e3 c 0 _ _ rfl e.symm
        have hw : IntKind.i64.wrap ((k : Int) + 1) = ((k + 1 : Nat) : Int) := by rw [w64 (by omega) (by omega)]; omega
        simp -implicitDefEqProofs [q48, q49, hlt, q10, kb5, eMx, hc, hw]
        refine ⟨by omega, ⟨k + 1, ApB.upd (t := t) ⟨_, x2, q2, q9, q10, kb1, kb4, kb5, ⟨p1, p2⟩, ⟨e1, e2, e3⟩, e4⟩ hc (by simp; omega) f1 f4 f5 |>.set (by simp) (by simp) (by simp), by simp [q48], by simp, by omega⟩, by omega⟩
      · simp -implicitDefEqProofs [q48, q49, hlt]
        exact ApB.set (t := t) ⟨x1, x2, q2, q9, q10, kb1, kb4, kb5, ⟨p1, p2⟩, ⟨e1, e2, e3⟩, e4⟩ (by simp) (by simp) (by simp)
    clear q2 hA
    rintro t h ⟨x1, x2, q2, q9, q10, kb1, kb4, kb5, ⟨p1, p2⟩, e1, e4⟩
    rcases id p2 with ⟨z2, rfl⟩ | ⟨c2, cc2, cells2, rfl, hc2, hl2⟩
    · simp -implicitDefEqProofs [q10, kb5, eMx]
      refine loopK.intro (ApJ a b1 b4 b5) (fun t => a.book.length - natOf (t 61)) ?_ ?_
      · exact ⟨0, ApB.set (t := t) ⟨x1, _, q2, q9, q10, kb1, kb4, kb5, ⟨p1, p2⟩, e1, e4⟩ (by simp) (by simp) (by simp), by simp [z2], by simp, by omega⟩
      clear q2 q9 q10 kb1 kb4 kb5 p1 p2 e1 e4
      rintro t h ⟨k, ⟨x1, x2, q2, q9, q10, kb1, kb4, kb5, ⟨p1, p2⟩, e4, ⟨e1, e2, e3⟩⟩, q60, q61, hk⟩
      by_cases hlt : (k : Int) < a.book.length
      · rcases id p2 with ⟨z, _⟩ | ⟨c, cc, cells, rfl, hc, hl⟩
        · omega
        have f1 : ¬ b1 = c := fun e => e1 c 0 _ _ rfl e.symm
        have f4 : ¬ b4 = c := fun e => e2 c 0 _ _ rfl e.symm
        have f5 : ¬ b5 = c := fun e => e3 c 0 _ _ rfl e.symm
        have hw : IntKind.i64.wrap ((k : Int) + 1) = ((k + 1 : Nat) : Int) := by rw [w64 (by omega) (by omega)]; omega
        simp -implicitDefEqProofs [q60, q61, hlt, q10, kb5, eMx, hc, hw]
        refine ⟨by omega, ⟨k + 1, ApB.upd (t := t) ⟨x1, _, q2, q9, q10, kb1, kb4, kb5, ⟨p1, p2⟩, e4, ⟨e1, e2, e3⟩⟩ hc (by simp; omega) f1 f4 f5 |>.set (by simp) (by simp) (by simp), by simp [q60], by simp, by omega⟩, by omega⟩
      · simp -implicitDefEqProofs [q60, q61, hlt]
        simp -implicitDefEqProofs [q2, q9, kb1, kb4, eM]
        refine CallK.with (same11_spec a a ha ha) (by simp [eM]) ?_
        rw [sameM_self]
        simp -implicitDefEqProofs
    · simp -implicitDefEqProofs [q10, kb5, eMx]
      intro _
      refine loopK.intro (ApJ a b1 b4 b5) (fun t => a.book.length - natOf (t 61)) ?_ ?_
      · exact ⟨0, ApB.set (t := t) ⟨x1, _, q2, q9, q10, kb1, kb4, kb5, ⟨p1, p2⟩, e1, e4⟩ (by simp) (by simp) (by simp), by simp, by simp, by omega⟩
      clear q2 q9 q10 kb1 kb4 kb5 p1 p2 e1 e4
      rintro t h ⟨k, ⟨x1, x2, q2, q9, q10, kb1, kb4, kb5, ⟨p1, p2⟩, e4, ⟨e1, e2, e3⟩⟩, q60, q61, hk⟩
      by_cases hlt : (k : Int) < a.book.length
      · rcases id p2 with ⟨z, _⟩ | ⟨c, cc, cells, rfl, hc, hl⟩
        · omega
        have f1 : ¬ b1 = c := fun e => e1 c 0 _ _ rfl e.symm
        have f4 : ¬ b4 = c := fun e => e2 c 0 _ _ rfl e.symm
        have f5 : ¬ b5 = c := fun e => e3 c 0 _ _ rfl e.symm
        have hw : IntKind.i64.wrap ((k : Int) + 1) = ((k + 1 : Nat) : Int) := by rw [w64 (by omega) (by omega)]; omega
        simp -implicitDefEqProofs [q60, q61, hlt, q10, kb5, eMx, hc, hw]
        refine ⟨by omega, ⟨k + 1, ApB.upd (t := t) ⟨x1, _, q2, q9, q10, kb1, kb4, kb5, ⟨p1, p2⟩, e4, ⟨e1, e2, e3⟩⟩ hc (by simp; omega) f1 f4 f5 |>.set (by simp) (by simp) (by simp), by simp [q60], by simp, by omega⟩, by omega⟩
      · simp -implicitDefEqProofs [q60, q61, hlt]
        simp -implicitDefEqProofs [q2, q9, kb1, kb4, eM]
        refine CallK.with (same11_spec a a ha ha) (by simp [eM]) ?_
        rw [sameM_self]
        simp -implicitDefEqProofs
  · refine loopK.post (ApI a b1 b4 b5) (fun t => a.cells.length - natOf (t 49)) (ApB a b1 b4 b5) ?_ ?_ ?_
    · exact ⟨0, by rw [hup]; exact hA _ (by simp [q2]) (by simp) (by simp), by simp, by simp, by omega⟩
    · clear q2 hA
      rintro t h ⟨k, ⟨x1, x2, q2, q9, q10, kb1, kb4, kb5, ⟨p1, p2⟩, ⟨e1, e2, e3⟩, e4⟩, q48, q49, hk⟩
      by_cases hlt : (k : Int) < a.cells.length
      · rcases id p1 with ⟨z, _⟩ | ⟨c, cc, cells, rfl, hc, hl⟩
        · omega
        have f1 : ¬ b1 = c := fun e => e1 c 0 _ _ rfl e.symm
        have f4 : ¬ b4 = c := fun e => e2 c 0 _ _ rfl e.symm
        have f5 : ¬ b5 = c := fun e => e3 c 0 _ _ rfl e.symm
        have hw : IntKind.i64.wrap ((k : Int) + 1) = ((k + 1 : Nat) : Int) := by rw [w64 (by omega) (by omega)]; omega
        simp -implicitDefEqProofs [q48, q49, hlt, q10, kb5, eMx, hc, hw]
        refine ⟨by omega, ⟨k + 1, ApB.upd (t := t) ⟨_, x2, q2, q9, q10, kb1, kb4, kb5, ⟨p1, p2⟩, ⟨e1, e2, e3⟩, e4⟩ hc (by simp; omega) f1 f4 f5 |>.set (by simp) (by simp) (by simp), by simp [q48], by simp, by omega⟩, by omega⟩
      · simp -implicitDefEqProofs [q48, q49, hlt]
        exact ApB.set (t := t) ⟨x1, x2, q2, q9, q10, kb1, kb4, kb5, ⟨p1, p2⟩, ⟨e1, e2, e3⟩, e4⟩ (by simp) (by simp) (by simp)
    clear q2 hA
    rintro t h ⟨x1, x2, q2, q9, q10, kb1, kb4, kb5, ⟨p1, p2⟩, e1, e4⟩
    rcases id p2 with ⟨z2, rfl⟩ | ⟨c2, cc2, cells2, rfl, hc2, hl2⟩
    · simp -implicitDefEqProofs [q10, kb5, eMx]
      refine loopK.intro (ApJ a b1 b4 b5) (fun t => a.book.length - natOf (t 61)) ?_ ?_
      · exact ⟨0, ApB.set (t := t) ⟨x1, _, q2, q9, q10, kb1, kb4, kb5, ⟨p1, p2⟩, e1, e4⟩ (by simp) (by simp) (by simp), by simp [z2], by simp, by omega⟩
      clear q2 q9 q10 kb1 kb4 kb5 p1 p2 e1 e4
      rintro t h ⟨k, ⟨x1, x2, q2, q9, q10, kb1, kb4, kb5, ⟨p1, p2⟩, e4, ⟨e1, e2, e3⟩⟩, q60, q61, hk⟩
      by_cases hlt : (k : Int) < a.book.length
      · rcases id p2 with ⟨z, _⟩ | ⟨c, cc, cells, rfl, hc, hl⟩
        · omega
        have f1 : ¬ b1 = c := fun e => e1 c 0 _ _ rfl e.symm
        have f4 : ¬ b4 = c := fun e => e2 c 0 _ _ rfl e.symm
        have f5 : ¬ b5 = c := fun e => e3 c 0 _ _ rfl e.symm
        have hw : IntKind.i64.wrap ((k : Int) + 1) = ((k + 1 : Nat) : Int) := by rw [w64 (by omega) (by omega)]; omega
        simp -implicitDefEqProofs [q60, q61, hlt, q10, kb5, eMx, hc, hw]
        refine ⟨by omega, ⟨k + 1, ApB.upd (t := t) ⟨x1, _, q2, q9, q10, kb1, kb4, kb5, ⟨p1, p2⟩, e4, ⟨e1, e2, e3⟩⟩ hc (by simp; omega) f1 f4 f5 |>.set (by simp) (by simp) (by simp), by simp [q60], by simp, by omega⟩, by omega⟩
      · simp -implicitDefEqProofs [q60, q61, hlt]
        simp -implicitDefEqProofs [q2, q9, kb1, kb4, eM]
        refine CallK.with (same11_spec a a ha ha) (by simp [eM]) ?_
        rw [sameM_self]
        simp -implicitDefEqProofs
    · simp -implicitDefEqProofs [q10, kb5, eMx]
      intro _
      refine loopK.intro (ApJ a b1 b4 b5) (fun t => a.book.length - natOf (t 61)) ?_ ?_
      · exact ⟨0, ApB.set (t := t) ⟨x1, _, q2, q9, q10, kb1, kb4, kb5, ⟨p1, p2⟩, e1, e4⟩ (by simp) (by simp) (by simp), by simp, by simp, by omega⟩
      clear q2 q9 q10 kb1 kb4 kb5 p1 p2 e1 e4
      rintro t h ⟨k, ⟨x1, x2, q2, q9, q10, kb1, kb4, kb5, ⟨p1, p2⟩, e4, ⟨e1, e2, e3⟩⟩, q60, q61, hk⟩
      by_cases hlt : (k : Int) < a.book.length
      · rcases id p2 with ⟨z, _⟩ | ⟨c, cc, cells, rfl, hc, hl⟩
        · omega
        have f1 : ¬ b1 = c := fun e => e1 c 0 _ _ rfl e.symm
        have f4 : ¬ b4 = c := fun e => e2 c 0 _ _ rfl e.symm
        have f5 : ¬ b5 = c := fun e => e3 c 0 _ _ rfl e.symm
        have hw : IntKind.i64.wrap ((k : Int) + 1) = ((k + 1 : Nat) : Int) := by rw [w64 (by omega) (by omega)]; omega
        simp -implicitDefEqProofs [q60, q61, hlt, q10, kb5, eMx, hc, hw]
        refine ⟨by omega, ⟨k + 1, ApB.upd (t := t) ⟨x1, _, q2, q9, q10, kb1, kb4, kb5, ⟨p1, p2⟩, e4, ⟨e1, e2, e3⟩⟩ hc (by simp; omega) f1 f4 f5 |>.set (by simp) (by simp) (by simp), by simp [q60], by simp, by omega⟩, by omega⟩
      · simp -implicitDefEqProofs [q60, q61, hlt]
        simp -implicitDefEqProofs [q2, q9, kb1, kb4, eM]
        refine CallK.with (same11_spec a a ha ha) (by simp [eM]) ?_
        rw [sameM_self]
        simp -implicitDefEqProofs
end Go.Proofs.Ytbgifnlaaophcaa

/- Arguments of the laws on messages, read as plain data. No condition. -/
set_option linter.unusedSimpArgs false
set_option linter.unusedVariables false
set_option maxRecDepth 10000
namespace Go.Proofs.Ytbgifnlaaophcaa
open Go Go.Rw Go.Proofs

theorem own : ownKnob Try.prog.godebug = none := by kernel_rfl
theorem laidOut : laidOutB Try.prog = true := by kernel_rfl

theorem bulkAll_sum {H : Type} : ∀ l : List (DataW H), Rows.uptoBulkAll l = (l.map Rows.uptoBulk).sum
  | [] => by simp [Rows.uptoBulkAll]
  | d :: l => by simp [Rows.uptoBulkAll, bulkAll_sum l]
theorem bulkOK {H : Type} : BulkOK (Rows.uptoBulk (H := H)) where
  one := fun d => by
    cases d with
    | lit l => cases l <;> simp [Rows.uptoBulk]
    | nil => simp [Rows.uptoBulk]
    | ptr d => simp [Rows.uptoBulk]
    | slice elems spare => simp [Rows.uptoBulk]
    | agg parts => simp [Rows.uptoBulk]
    | iface t d => simp [Rows.uptoBulk]
    | map entries => simp [Rows.uptoBulk]
    | held h => simp [Rows.uptoBulk]
  slice := fun e s => by simp only [Rows.uptoBulk, bulkAll_sum]; omega
  agg := fun p => by simp only [Rows.uptoBulk, bulkAll_sum]; omega
theorem bulk_of {H : Type} {l : List (DataW H)} (hk : Rows.uptoSmall H l = true) : Rows.uptoBulkAll l ≤ 1048576 := of_decide_eq_true hk

section
variable {H : Type} {enc0 : TypeId × Value → H} {W : World}
def inI (n : Int) : Prop := -9223372036854775808 ≤ n ∧ n ≤ 9223372036854775807
theorem inI_of {n : Int} (h : IntKind.i64.min ≤ n ∧ n ≤ IntKind.i64.max) : inI n := h
theorem reads_int : Reads Try.prog Rows.uptoBulk enc0 W 3 (fun n : Int => [eI n]) (fun n _ => inI n) := Reads.int Try.underlying3
theorem reads_f64 : Reads Try.prog Rows.uptoBulk enc0 W 50 (fun n : Nat => [AV.v (.float .f64 n)]) (fun n _ => n < 18446744073709551616) := Reads.float Try.underlying50
theorem reads_u32 : Reads Try.prog Rows.uptoBulk enc0 W 38 (fun n : BitVec 32 => [AV.v (.int .u32 (n32 n))]) (fun _ _ => True) := by
  have h : Reads Try.prog Rows.uptoBulk enc0 W 38 (fun n : Int => [AV.v (.int .u32 n)]) (fun n _ => IntKind.u32.min ≤ n ∧ n ≤ IntKind.u32.max) := Reads.int Try.underlying38
  intro fuel cs x hx hb
  obtain ⟨n, h1, h2, h3⟩ := h fuel cs x hx hb
  have e1 : IntKind.u32.min = 0 := rfl
  have e2 : IntKind.u32.max = 4294967295 := rfl
  refine ⟨BitVec.ofNat 32 n.toNat, ?_, trivial⟩
  have e3 : n32 (BitVec.ofNat 32 n.toNat) = n := by
    simp only [n32, BitVec.toNat_ofNat]
    omega
  show Reps _ [AV.v (.int .u32 (n32 _))] cs
  rw [e3]; exact h1
theorem reads_byte : Reads Try.prog Rows.uptoBulk enc0 W 5 encB (fun _ _ => True) := by
  have h : Reads Try.prog Rows.uptoBulk enc0 W 5 (fun n : Int => [AV.v (.int .u8 n)]) (fun n _ => IntKind.u8.min ≤ n ∧ n ≤ IntKind.u8.max) := Reads.int Try.underlying5
  intro fuel cs x hx hb
  obtain ⟨n, h1, h2, h3⟩ := h fuel cs x hx hb
  have e1 : IntKind.u8.min = 0 := rfl
  have e2 : IntKind.u8.max = 255 := rfl
  refine ⟨UInt8.ofNat n.toNat, ?_, trivial⟩
  have e4 : (UInt8.ofNat n.toNat).toNat = n.toNat % 256 := by simp
  have e3 : ((UInt8.ofNat n.toNat).toNat : Int) = n := by rw [e4]; omega
  rw [encB, e3]; exact h1
theorem reads_bytes : Reads Try.prog Rows.uptoBulk enc0 W 30 (fun l : List UInt8 => [AV.sl .no (eB l)]) (fun l n => l.length ≤ n) :=
  (Reads.slice (sz := 1) bulkOK Try.underlying30 (by kernel_rfl) (by omega) reads_byte (by intro a x hx; simp [encB] at hx; subst hx; rfl)).weaken id (fun _ => rfl) fun _ _ h => h.length
theorem reads_view : Reads Try.prog Rows.uptoBulk enc0 W 25 eV (fun v _ => inI v.add ∧ inI v.del) :=
  (Reads.struct bulkOK Try.underlying25 (by kernel_rfl) (.cons (sz := 1) rfl (by kernel_rfl) reads_int (.cons (sz := 1) rfl (by kernel_rfl) reads_int .nil)) (fun _ _ _ ⟨m, k, h1, h2⟩ _ => ⟨m, k, by omega, h2⟩)).weaken (β := PView)
    (fun p => ⟨p.1, p.2.1⟩) (fun p => rfl) (fun p n ⟨m, k, _, h1, m', k', _, h2, _⟩ => ⟨h1, h2⟩)
theorem reads_tag : Reads Try.prog Rows.uptoBulk enc0 W 49 eT (fun v _ => inI v.num ∧ inI v.node) :=
  (Reads.struct bulkOK Try.underlying49 (by kernel_rfl) (.cons (sz := 1) rfl (by kernel_rfl) reads_int (.cons (sz := 1) rfl (by kernel_rfl) reads_int .nil)) (fun _ _ _ ⟨m, k, h1, h2⟩ _ => ⟨m, k, by omega, h2⟩)).weaken (β := PTag)
    (fun p => ⟨p.1, p.2.1⟩) (fun p => rfl) (fun p n ⟨m, k, _, h1, m', k', _, h2, _⟩ => ⟨h1, h2⟩)
def goodC (c : PCell) (_ : Nat) : Prop := inI c.node ∧ inI c.change.add ∧ inI c.change.del
theorem reads_cell : Reads Try.prog Rows.uptoBulk enc0 W 47 eC goodC :=
  (Reads.struct bulkOK Try.underlying47 (by kernel_rfl) (.cons (sz := 1) rfl (by kernel_rfl) reads_int (.cons (sz := 2) rfl (by kernel_rfl) reads_view .nil)) (fun _ _ _ ⟨m, k, h1, h2⟩ _ => ⟨m, k, by omega, h2⟩)).weaken (β := PCell)
    (fun p => ⟨p.1, p.2.1⟩) (fun p => rfl) (fun p n ⟨m, k, _, h1, m', k', _, h2, _⟩ => ⟨h1, h2⟩)
def goodE (x : PEntry) (_ : Nat) : Prop := inI x.key ∧ (inI x.tag.num ∧ inI x.tag.node) ∧ x.value < 18446744073709551616
theorem reads_entry : Reads Try.prog Rows.uptoBulk enc0 W 52 eE goodE :=
  (Reads.struct bulkOK Try.underlying52 (by kernel_rfl) (.cons (sz := 1) rfl (by kernel_rfl) reads_int (.cons (sz := 2) rfl (by kernel_rfl) reads_tag (.cons (sz := 1) rfl (by kernel_rfl) reads_f64 .nil))) (fun _ _ _ ⟨m, k, h1, h2⟩ _ => ⟨m, k, by omega, h2⟩)).weaken (β := PEntry)
    (fun p => ⟨p.1, p.2.1, p.2.2.1⟩) (fun p => rfl) (fun p n ⟨m, k, _, h1, m', k', _, h2, m2, k2, _, h3, _⟩ => ⟨h1, h2, h3⟩)
theorem reads_cells : Reads Try.prog Rows.uptoBulk enc0 W 26 (fun l : List PCell => [AV.sl .no (eCs l)]) (fun l n => Goods goodC l n) :=
  Reads.slice (sz := 3) bulkOK Try.underlying26 (by kernel_rfl) (by omega) reads_cell (by intro a x hx; simp [eC] at hx; rcases hx with rfl | rfl | rfl <;> rfl)
theorem reads_entries : Reads Try.prog Rows.uptoBulk enc0 W 27 (fun l : List PEntry => [AV.sl .no (eEs l)]) (fun l n => Goods goodE l n) :=
  Reads.slice (sz := 4) bulkOK Try.underlying27 (by kernel_rfl) (by omega) reads_entry (by intro a x hx; simp [eE] at hx; rcases hx with rfl | rfl | rfl | rfl <;> rfl)
structure GoodM (m : PMsg) (n : Nat) : Prop where
  kind : inI m.kind
  frm : inI m.frm
  to : inI m.to
  inc : inI m.inc
  seq : inI m.seq
  view : inI m.view.add ∧ inI m.view.del
  lists : ∃ a b, a + b ≤ n ∧ Goods goodC m.cells a ∧ Goods goodE m.book b
set_option maxHeartbeats 2000000 in
theorem reads_msg : Reads Try.prog Rows.uptoBulk enc0 W 29 eM GoodM :=
  (Reads.struct bulkOK Try.underlying29 (by kernel_rfl) (.cons (sz := 1) rfl (by kernel_rfl) reads_int (.cons (sz := 1) rfl (by kernel_rfl) reads_int (.cons (sz := 1) rfl (by kernel_rfl) reads_int (.cons (sz := 1) rfl (by kernel_rfl) reads_int (.cons (sz := 1) rfl (by kernel_rfl) reads_int
    (.cons (sz := 2) rfl (by kernel_rfl) reads_view (.cons (sz := 1) rfl (by kernel_rfl) reads_cells (.cons (sz := 1) rfl (by kernel_rfl) reads_entries .nil)))))))) (fun _ _ _ ⟨m, k, h1, h2⟩ _ => ⟨m, k, by omega, h2⟩)).weaken (β := PMsg)
    (fun p => ⟨p.1, p.2.1, p.2.2.1, p.2.2.2.1, p.2.2.2.2.1, p.2.2.2.2.2.1, p.2.2.2.2.2.2.1, p.2.2.2.2.2.2.2.1⟩) (fun p => rfl)
    (fun p n ⟨_, _, l1, h1, _, _, l2, h2, _, _, l3, h3, _, _, l4, h4, _, _, l5, h5, _, _, l6, h6, _, _, l7, h7, _, _, l8, h8, _⟩ => ⟨h1, h2, h3, h4, h5, h6, _, _, by omega, h7, h8⟩)
theorem GoodM.lens {m : PMsg} {n : Nat} (h : GoodM m n) : m.cells.length + m.book.length ≤ n := by
  obtain ⟨a, b, h1, h2, h3⟩ := h.lists
  have := h2.length; have := h3.length
  omega
theorem GoodM.fit {m : PMsg} {n : Nat} (h : GoodM m n) : ∀ x ∈ m.book, x.value < 18446744073709551616 := by
  obtain ⟨a, b, h1, h2, h3⟩ := h.lists
  intro x hx
  obtain ⟨_, _, h4⟩ := h3.mem x hx
  exact h4.2.2

def zeroMsg : Value := .agg #[.int .i64 0, .int .i64 0, .int .i64 0, .int .i64 0, .int .i64 0, .int .i64 0, .int .i64 0, .slice none 0 0, .slice none 0 0]
def z0 : DataW H := .lit (.int .i64 0)
def zeroMsgD : DataW H := .agg [z0, z0, z0, z0, z0, .agg [z0, z0], .nil, .nil]
theorem reps_two {I : Imm} {x1 x2 : AV} {y1 y2 : Value} (h1 : Rep I x1 y1) (h2 : Rep I x2 y2) : Reps I [x1, x2] [y1, y2] := cell_reps (reps_one h1) [x2] [y2] (reps_one h2)
theorem reps_three {I : Imm} {x1 x2 x3 : AV} {y1 y2 y3 : Value} (h1 : Rep I x1 y1) (h2 : Rep I x2 y2) (h3 : Rep I x3 y3) : Reps I [x1, x2, x3] [y1, y2, y3] := cell_reps (reps_one h1) [x2, x3] [y2, y3] (reps_two h2 h3)
/-- an argument that is a struct -/
theorem arg_agg {t : TypeId} {fs : Array Field} {α : Type} {enc : α → List AV} {good : α → Nat → Prop} (hr : Reads Try.prog Rows.uptoBulk enc0 W t enc good) (ht : Try.prog.underlying t = some (.struct fs)) {v : Value} {d : DataW H} {p : List MemPlace} {base : Nat}
    (hok : Value.okWide Try.prog W .any base t v) (h : DataW.Trod enc0 Try.prog W 0 (fun _ => true) true t v d p) (hb : Rows.uptoBulk d ≤ 1048576) : ∃ a, Rep (allI W) (.agg (enc a)) v ∧ good a (Rows.uptoBulk d) := by
  simp only [Value.okWide, ht] at hok
  obtain ⟨cs, rfl, _, _⟩ := hok
  obtain ⟨fuel, hf⟩ := h
  obtain ⟨a, h1, h2⟩ := hr fuel _ _ hf (show Rows.uptoBulk d ≤ 281474976710656 by omega)
  refine ⟨a, ?_, h2⟩
  have : cs = (Value.agg cs).cells.toList.toArray := by simp [Value.cells]
  conv => rhs; rw [this]
  exact .agg _ h1.1 h1.2
/-- an argument of one cell -/
theorem arg_one {t : TypeId} {α : Type} {enc : α → AV} {good : α → Nat → Prop} (hr : Reads Try.prog Rows.uptoBulk enc0 W t (fun a => [enc a]) good) {v : Value} {d : DataW H} {p : List MemPlace}
    (hv : v.cells.toList = [v]) (h : DataW.Trod enc0 Try.prog W 0 (fun _ => true) true t v d p) (hb : Rows.uptoBulk d ≤ 1048576) : ∃ a, Rep (allI W) (enc a) v ∧ good a (Rows.uptoBulk d) := by
  obtain ⟨fuel, hf⟩ := h
  obtain ⟨a, h1, h2⟩ := hr fuel _ _ hf (show Rows.uptoBulk d ≤ 281474976710656 by omega)
  rw [hv] at h1
  exact ⟨a, h1.2 0 _ _ rfl rfl, h2⟩
/-- a value that is no struct is one cell -/
theorem one_cell {t : TypeId} {u : TypeDesc} (ht : Try.prog.underlying t = some u) (h1 : ∀ fs, u ≠ .struct fs) (h2 : ∀ n e, u ≠ .array n e) {v : Value} {base : Nat} (hok : Value.okWide Try.prog W .any base t v) : v.cells.toList = [v] := by
  unfold Value.okWide at hok
  rw [ht] at hok
  have hcell : Cell.okWide Try.prog W .any base t v := by
    cases u <;> first | exact hok | exact absurd rfl (h1 _) | exact absurd rfl (h2 _ _)
  cases v with
  | agg cs =>
    unfold Cell.okWide at hcell
    rw [ht] at hcell
    cases u <;> simp [Cell.ok, ht] at hcell
  | _ => rfl
end
end Go.Proofs.Ytbgifnlaaophcaa
