/- Parts of the proof: what is used by the law. No condition. -/
import Derived.Test.YtbgifnlaaophcaaRows
import Derived.Test.YtbgifnlaaophcaaGB
set_option linter.unusedSimpArgs false
set_option linter.unusedVariables false
/- The law MsgNames, walked. No condition. -/
set_option linter.unusedSimpArgs false
set_option linter.unusedVariables false
set_option maxRecDepth 10000
namespace Go.Proofs.Ytbgifnlaaophcaa
open Go Go.Rw Go.Proofs
-- a goal is never to be run by the elaborator
attribute [local irreducible] awp aops aop aopsE aeff

def m0 : PMsg := ⟨2, 1, 2, 3, 4, ⟨7, 0⟩, [], []⟩
def a0 : PMsg := ⟨6, 2, 1, 3, 4, ⟨7, 0⟩, [], []⟩
theorem m0_right : rightM m0 = true := by decide +kernel
theorem m0_read : readF bitsF (frameF bitsF m0) = some m0 := by decide +kernel
theorem m0_burst : readF bitsF (burstF (frameF bitsF m0) 9 1#32) = none := by decide +kernel
theorem m0_same : sameM m0 m0 = true := by decide +kernel
theorem m0_answers : answersM m0 a0 = true := by decide +kernel
theorem m0_len : (frameF bitsF m0).length ≤ 1000 := by decide +kernel
attribute [local irreducible] frameF readF burstF

theorem alive_spec : ASpec Try.prog 18 [] (· = .v (.bool true)) := by
  refine ASpec.of_awp Try.func18 (by kernel_rfl) rfl (by rw [Try.results18]) Try.ntmps18 ?_
  simp -implicitDefEqProofs
  refine allocK.intro (fun b hb => ?_)
  simp -implicitDefEqProofs
  have hl := m0_len
  refine CallK.with (msg_frame m0 (by intro x hx; cases hx)) (by simp [m0, eM]) ?_
  simp -implicitDefEqProofs [m0_right, frameA]
  refine CallK.eq (msg_read _ (by omega)) ?_
  rw [m0_read]
  simp -implicitDefEqProofs [readA, eM]
  refine allocK.intro (fun b2 hb2 => ?_)
  have hbb : ¬ b = b2 := by rintro rfl; simp at hb2
  have hbb' : ¬ b2 = b := fun h => hbb h.symm
  simp -implicitDefEqProofs [hbb, hbb']
  refine CallK.of (crc_burst _ 9 1#32 (by omega) (by omega)) ?_
  rintro _ ⟨tag, _, rfl⟩
  simp -implicitDefEqProofs
  refine CallK.eq (msg_read _ (by rw [burstF_length]; omega)) ?_
  rw [m0_burst]
  simp -implicitDefEqProofs [readA, eM]
  refine allocK.intro (fun b3 hb3 => ?_)
  have h1 : ¬ b3 = b := by rintro rfl; simp [hbb] at hb3
  have h1' : ¬ b = b3 := fun h => h1 h.symm
  have h2 : ¬ b3 = b2 := by rintro rfl; simp at hb3
  have h2' : ¬ b2 = b3 := fun h => h2 h.symm
  simp -implicitDefEqProofs [hbb, hbb', h1, h1', h2, h2']
  refine CallK.with (msg_same m0 m0) (by simp [m0, eM]) ?_
  simp -implicitDefEqProofs [m0_same, hbb, hbb', h1, h1', h2, h2']
  refine CallK.with (msg_answers m0 a0) (by simp [m0, a0, eM]) ?_
  simp -implicitDefEqProofs [m0_answers]

theorem names_spec : ASpec Try.prog 3 [] (· = .v (.bool true)) := by
  refine ASpec.of_awp Try.func3 (by kernel_rfl) rfl (by rw [Try.results3]) Try.ntmps3 ?_
  simp -implicitDefEqProofs
  refine CallK.eq alive_spec ?_
  simp -implicitDefEqProofs
  have hr : rightM ⟨0, 0, 0, 0, 0, ⟨0, 0⟩, [], []⟩ = false := by decide +kernel
  refine CallK.with (msg_right ⟨0, 0, 0, 0, 0, ⟨0, 0⟩, [], []⟩) (by simp [eM]) ?_
  simp -implicitDefEqProofs [hr]
end Go.Proofs.Ytbgifnlaaophcaa

/- The law MsgOne, walked. No condition. -/
set_option linter.unusedSimpArgs false
set_option linter.unusedVariables false
set_option maxRecDepth 10000
namespace Go.Proofs.Ytbgifnlaaophcaa
open Go Go.Rw Go.Proofs
-- a goal is never to be run by the elaborator
attribute [local irreducible] awp aops aop aopsE aeff

def cnt1 (q : PMsg) (K F : Int) : Int := if q.kind ≤ 4 ∧ (kindN q.kind < K ∨ (kindN q.kind = K ∧ q.to < F)) then 1 else 0
def prob (q : PMsg) (K F : Int) : PMsg := ⟨K, F, q.frm, q.inc, q.seq, q.view, [], []⟩
theorem kindN_ge (k : Int) : 5 ≤ kindN k ∧ kindN k ≤ 7 := by
  unfold kindN; split
  · omega
  · split <;> omega
theorem prob_answers (q : PMsg) (hq : RightM q) (K F : Int) : answersM q (prob q K F) = decide (q.kind ≤ 4 ∧ K = kindN q.kind ∧ F = q.to) := by
  have := hq.kind
  have h0 : 0 ≤ q.kind := this.1
  simp only [answersM, prob, decide_true, Bool.and_true, h0]
  by_cases h1 : q.kind ≤ 4 <;> by_cases h2 : K = kindN q.kind <;> by_cases h3 : F = q.to <;> simp [h1, h2, h3]
theorem prob_back (q : PMsg) (K F : Int) (hK : 5 ≤ K) : answersM (prob q K F) q = false := by
  have : ¬ K ≤ 4 := by omega
  simp [answersM, prob, this]
theorem cnt1_step (q : PMsg) (hq : RightM q) (K F : Int) : cnt1 q K (F + 1) = if answersM q (prob q K F) = true then cnt1 q K F + 1 else cnt1 q K F := by
  rw [prob_answers q hq]
  unfold cnt1
  by_cases h1 : q.kind ≤ 4
  · simp only [h1, true_and]
    by_cases h2 : K = kindN q.kind
    · subst h2
      by_cases h3 : F = q.to
      · subst h3; simp; omega
      · have e1 : (q.to < F + 1) ↔ q.to < F := by omega
        simp [h3, e1]
    · have h2' : ¬ kindN q.kind = K := fun h => h2 h.symm
      simp [h2, h2']
  · simp [h1]
theorem cnt1_row (q : PMsg) (hq : RightM q) (K : Int) : cnt1 q K 6 = cnt1 q (K + 1) 0 := by
  have := hq.to
  unfold cnt1
  by_cases h1 : q.kind ≤ 4
  · have e1 : (kindN q.kind < K ∨ kindN q.kind = K ∧ q.to < 6) ↔ (kindN q.kind < K + 1 ∨ kindN q.kind = K + 1 ∧ q.to < 0) := by omega
    simp only [h1, true_and, e1]
  · simp [h1]
theorem cnt1_end (q : PMsg) (hq : RightM q) : cnt1 q 8 0 = if q.kind ≤ 4 then 1 else 0 := by
  have := kindN_ge q.kind
  unfold cnt1
  by_cases h1 : q.kind ≤ 4
  · have e1 : kindN q.kind < 8 := by omega
    simp [h1, e1]
  · simp [h1]
theorem cnt1_le (q : PMsg) (K F : Int) : 0 ≤ cnt1 q K F ∧ cnt1 q K F ≤ 1 := by
  unfold cnt1; split <;> omega

def OneI (q a : PMsg) (b b2 : Nat) (t : Nat → AV) (h : Nat → Option (List AV)) : Prop := ∃ K : Nat, t 2 = .ptr b 0 ∧ t 3 = .ptr b2 0 ∧ t 5 = eI (cnt1 q K 0) ∧ t 6 = eI K ∧ K ≤ 8 ∧ h b = some (eM q) ∧ h b2 = some (eM a)
def OneJ (q a : PMsg) (b b2 K : Nat) (t : Nat → AV) (h : Nat → Option (List AV)) : Prop := ∃ F : Nat, t 2 = .ptr b 0 ∧ t 3 = .ptr b2 0 ∧ t 5 = eI (cnt1 q K F) ∧ t 6 = eI K ∧ t 7 = eI F ∧ F ≤ 6 ∧ h b = some (eM q) ∧ h b2 = some (eM a)
def OneE (q a : PMsg) (b b2 : Nat) (t : Nat → AV) (h : Nat → Option (List AV)) : Prop := t 2 = .ptr b 0 ∧ t 3 = .ptr b2 0 ∧ t 5 = eI (if q.kind ≤ 4 then 1 else 0) ∧ h b = some (eM q) ∧ h b2 = some (eM a)

theorem one_spec (q a : PMsg) : ASpec Try.prog 6 [.agg (eM q), .agg (eM a)] (· = .v (.bool true)) := by
  refine ASpec.of_awp Try.func6 (by kernel_rfl) rfl (by rw [Try.results6]) Try.ntmps6 ?_
  simp -implicitDefEqProofs [eM]
  refine allocK.intro (fun b hb => ?_)
  simp -implicitDefEqProofs
  refine allocK.intro (fun b2 hb2 => ?_)
  have hbb : ¬ b = b2 := by rintro rfl; simp at hb2
  have hbb' : ¬ b2 = b := fun h => hbb h.symm
  simp -implicitDefEqProofs [hbb, hbb']
  refine CallK.eq alive_spec ?_
  simp -implicitDefEqProofs [hbb, hbb']
  refine CallK.with (msg_right q) (by simp [eM]) ?_
  cases hr : rightM q
  · simp -implicitDefEqProofs
  have R := rightM_of hr
  simp -implicitDefEqProofs
  refine loopK.post (OneI q a b b2) (fun t => 8 - natOf (t 6)) (OneE q a b b2) ?_ ?_ ?_
  · refine ⟨0, by simp, by simp, ?_, by simp, by omega, by simp [hbb, hbb', eM], by simp [hbb, hbb', eM]⟩
    have : cnt1 q 0 0 = 0 := by
      have := kindN_ge q.kind
      have := R.to
      unfold cnt1
      rw [if_neg (by omega)]
    simp [this]
  · rintro t hh ⟨K, g2, g3, g5, g6, hK, gb, gb2⟩
    simp -implicitDefEqProofs [g6]
    refine branch_dec (fun hlt => ?_) (fun hlt => ?_)
    · have hlt : K < 8 := by omega
      have hK1 : IntKind.i64.wrap ((K : Int) + 1) = (K : Int) + 1 := w64 (by omega) (by omega)
      simp -implicitDefEqProofs
      refine loopK.intro (OneJ q a b b2 K) (fun t => 6 - natOf (t 7)) ?_ ?_
      · exact ⟨0, by simp [g2], by simp [g3], by simp [g5], by simp [g6], by simp, by omega, gb, gb2⟩
      clear g2 g3 g5 gb gb2
      rintro t2 hh2 ⟨F, g2, g3, g5, g6', g7, hF, gb, gb2⟩
      simp -implicitDefEqProofs [g7]
      refine branch_dec (fun hlt2 => ?_) (fun hlt2 => ?_)
      · have hlt2 : F < 6 := by omega
        have hF1 : IntKind.i64.wrap ((F : Int) + 1) = (F : Int) + 1 := w64 (by omega) (by omega)
        have hcl := cnt1_le q K F
        have hc1 : IntKind.i64.wrap (cnt1 q K F + 1) = cnt1 q K F + 1 := w64 (by omega) (by omega)
        simp -implicitDefEqProofs [g2, g6', g7, gb, eM]
        refine allocK.intro (fun b3 hb3 => ?_)
        have h1 : ¬ b3 = b := by rintro rfl; rw [gb] at hb3; simp at hb3
        have h1' : ¬ b = b3 := fun h => h1 h.symm
        have h2 : ¬ b3 = b2 := by rintro rfl; rw [gb2] at hb3; simp at hb3
        have h2' : ¬ b2 = b3 := fun h => h2 h.symm
        simp -implicitDefEqProofs [g2, gb, eM, h1, h1', h2, h2']
        refine CallK.with (msg_answers q (prob q K F)) (by simp [eM, prob]) ?_
        have hst := cnt1_step q R K F
        cases hans : answersM q (prob q K F)
        · rw [if_neg (by simp [hans])] at hst
          simp -implicitDefEqProofs [g7, hF1]
          exact ⟨⟨F + 1, by simp [g2], by simp [g3], by simp [g5, hst], by simp [g6'], by simp, by omega, by simp [h1', gb], by simp [h2', gb2]⟩, by omega⟩
        · rw [if_pos hans] at hst
          rw [prob_answers q R] at hans
          have hans := of_decide_eq_true hans
          have hkk := kindN_ge q.kind
          have e1 : (F : Int) = q.to := hans.2.2
          have e2 : ¬ (K : Int) < 5 := by omega
          simp -implicitDefEqProofs [g2, g5, g6', g7, gb, eM, h1, h1', h2, h2', hc1, e1, e2]
          refine CallK.with (msg_answers (prob q K F) q) (by simp [eM, prob, e1]) ?_
          rw [prob_back q K F (by omega)]
          have hF1' : IntKind.i64.wrap (q.to + 1) = q.to + 1 := by rw [← e1]; exact hF1
          simp -implicitDefEqProofs [g7, e1, hF1', e2]
          refine ⟨⟨F + 1, by simp [g2], by simp [g3], by simp [hst]; rw [← e1]; exact hc1, by simp [g6'], by simp [e1], by omega, by simp [h1', gb], by simp [h2', gb2]⟩, by omega⟩
      · have hF' : F = 6 := by omega
        subst hF'
        have hrow := cnt1_row q R K
        simp -implicitDefEqProofs [g6', hK1]
        exact ⟨⟨K + 1, by simp [g2], by simp [g3], by simp [g5]; exact hrow, by simp, by omega, gb, gb2⟩, by simp [g6]; omega⟩
    · have hK' : K = 8 := by omega
      subst hK'
      simp -implicitDefEqProofs
      refine ⟨g2, g3, ?_, gb, gb2⟩
      have := cnt1_end q R
      simp [g5]
      exact this
  rintro t hh ⟨g2, g3, g5, gb, gb2⟩
  simp -implicitDefEqProofs [g2, g3, gb, gb2, eM]
  refine CallK.with (msg_answers q a) (by simp [eM]) ?_
  have hk0 := R.kind
  cases hans : answersM q a
  · by_cases k4 : q.kind ≤ 4
    · have k5 : q.kind < 5 := by omega
      by_cases e1 : a.inc = q.inc
      · by_cases e2 : a.seq = q.seq
        · by_cases e3 : a.view.add = q.view.add
          · by_cases e4 : a.view.del = q.view.del
            · by_cases e5 : a.frm = q.to
              · by_cases e6 : a.to = q.frm
                · have hk : ¬ a.kind = kindN q.kind := by
                    intro hk
                    simp [answersM, hk0.1, k4, e1, e2, e3, e4, e5, e6, hk] at hans
                  by_cases e7 : a.kind = 5
                  · have e8 : ¬ q.kind = 0 := by
                      intro h8
                      rw [e7, h8] at hk
                      exact hk rfl
                    simp -implicitDefEqProofs [g2, g3, g5, gb, gb2, eM, e1, e2, e3, e4, e5, e6, e7, e8, k4]
                  · simp -implicitDefEqProofs [g2, g3, g5, gb, gb2, eM, e1, e2, e3, e4, e5, e6, e7, k4]
                · simp -implicitDefEqProofs [g2, g3, g5, gb, gb2, eM, e1, e2, e3, e4, e5, e6, k4, k5]
              · simp -implicitDefEqProofs [g2, g3, g5, gb, gb2, eM, e1, e2, e3, e4, e5, k4, k5]
            · have e4' : (a.view.del == q.view.del) = false := by simpa using e4
              simp -implicitDefEqProofs [g2, g3, g5, gb, gb2, eM, e1, e2, e3, e4, e4', k4, k5]
          · have e3' : (a.view.add == q.view.add) = false := by simpa using e3
            simp -implicitDefEqProofs [g2, g3, g5, gb, gb2, eM, e1, e2, e3, e3', k4, k5]
        · simp -implicitDefEqProofs [g2, g3, g5, gb, gb2, eM, e1, e2, k4, k5]
      · simp -implicitDefEqProofs [g2, g3, g5, gb, gb2, eM, e1, k4, k5]
    · have k5 : ¬ q.kind < 5 := by omega
      by_cases e1 : a.inc = q.inc
      · by_cases e2 : a.seq = q.seq
        · by_cases e3 : a.view.add = q.view.add
          · by_cases e4 : a.view.del = q.view.del
            · by_cases e5 : a.frm = q.to
              · by_cases e6 : a.to = q.frm
                · simp -implicitDefEqProofs [g2, g3, g5, gb, gb2, eM, e1, e2, e3, e4, e5, e6, k4, k5]
                · simp -implicitDefEqProofs [g2, g3, g5, gb, gb2, eM, e1, e2, e3, e4, e5, e6, k4, k5]
              · simp -implicitDefEqProofs [g2, g3, g5, gb, gb2, eM, e1, e2, e3, e4, e5, k4, k5]
            · have e4' : (a.view.del == q.view.del) = false := by simpa using e4
              simp -implicitDefEqProofs [g2, g3, g5, gb, gb2, eM, e1, e2, e3, e4, e4', k4, k5]
          · have e3' : (a.view.add == q.view.add) = false := by simpa using e3
            simp -implicitDefEqProofs [g2, g3, g5, gb, gb2, eM, e1, e2, e3, e3', k4, k5]
        · simp -implicitDefEqProofs [g2, g3, g5, gb, gb2, eM, e1, e2, k4, k5]
      · simp -implicitDefEqProofs [g2, g3, g5, gb, gb2, eM, e1, k4, k5]
  · have hk4 : q.kind ≤ 4 := by
      by_cases h : q.kind ≤ 4
      · exact h
      · simp [answersM, h] at hans
    have k5 : q.kind < 5 := by omega
    simp -implicitDefEqProofs [g2, g5, gb, eM, hk4, k5]
end Go.Proofs.Ytbgifnlaaophcaa

/- The law MsgShort, walked. No condition. -/
set_option linter.unusedSimpArgs false
set_option linter.unusedVariables false
set_option maxRecDepth 10000
namespace Go.Proofs.Ytbgifnlaaophcaa
open Go Go.Rw Go.Proofs
-- a goal is never to be run by the elaborator
attribute [local irreducible] awp aops aop aopsE aeff

def withTo (m : PMsg) (to : Int) : PMsg := ⟨m.kind, m.frm, to, m.inc, m.seq, m.view, m.cells, m.book⟩
theorem right_withTo {m : PMsg} (hr : rightM m = true) (to : Int) : rightM (withTo m to) = betweenB to 0 5 := by
  simp only [rightM, Bool.and_eq_true] at hr
  obtain ⟨⟨⟨⟨⟨⟨⟨⟨⟨q1, q2⟩, q3⟩, q4⟩, q5⟩, q6⟩, q7⟩, q8⟩, q9⟩, q10⟩ := hr
  have e : rightM (withTo m to) = (betweenB m.kind 0 7 && betweenB m.frm 0 5 && betweenB to 0 5 && betweenB m.inc 1 1000000 && betweenB m.seq 1 1000000 &&
    (decide (m.cells = []) || decide (m.kind = 1) || decide (m.kind = 5)) && (decide (m.book = []) || decide (m.kind = 3) || decide (m.kind = 6)) && rightV m.view && checkC (-1) m.cells && checkE (-1) m.book) := rfl
  rw [e, q1, q2, q4, q5, q6, q7, q8, q9, q10]
  simp
theorem bitsF_idem (b : Nat) : bitsF (bitsF b) = bitsF b := cleanB_idem _ b
theorem fit_bits {m : PMsg} (hf : fitM m) : ∀ x ∈ m.book, bitsF x.value < 18446744073709551616 := fun x hx => bitsF_lt (hf x hx)
theorem sameEs_clean : ∀ l : List PEntry, sameEs (l.map (cleanE bitsF)) l = true
  | [] => rfl
  | x :: l => by
    have h := sameE_clean x bitsF bitsF_idem
    rw [List.map_cons, sameEs, sameEs_clean l, Bool.and_true]
    exact h
theorem sameM_clean (m : PMsg) : sameM (cleanM bitsF m) m = true := by
  simp [sameM, headM, cleanM, sameEs_clean]
theorem read_frame2 {m : PMsg} (hr : rightM m = true) (hf : fitM m) : readF bitsF (frameF bitsF m) = some (cleanM bitsF m) := read_frame bitsF_idem hr (fit_bits hf)
theorem frame_to {m : PMsg} (hr : rightM m = true) (hf : fitM m) {to : Int} (ht : betweenB to 0 5 = true) : (frameF bitsF m = frameF bitsF (withTo m to)) ↔ to = m.to := by
  constructor
  · intro h
    have a := read_frame2 hr hf
    have b := read_frame2 (m := withTo m to) (by rw [right_withTo hr]; exact ht) hf
    rw [h, b] at a
    have := congrArg PMsg.to (Option.some.inj a)
    exact this
  · rintro rfl
    rfl
attribute [local irreducible] frameF readF rightM sameM

theorem short_spec (m : PMsg) (to : Int) (hf : fitM m) (h1 : m.cells.length ≤ 1048576) (h2 : m.book.length ≤ 1048576) : ASpec Try.prog 9 [.agg (eM m), eI to] (· = .v (.bool true)) := by
  refine ASpec.of_awp Try.func9 (by kernel_rfl) rfl (by rw [Try.results9]) Try.ntmps9 ?_
  simp -implicitDefEqProofs [eM]
  refine allocK.intro (fun b hb => ?_)
  simp -implicitDefEqProofs
  refine CallK.eq alive_spec ?_
  simp -implicitDefEqProofs
  refine CallK.with (msg_frame m hf) (by simp [eM]) ?_
  cases hr : rightM m
  · simp -implicitDefEqProofs [frameA]
  have hl := len_frame hr (fit_bits hf)
  have w1 : IntKind.i64.wrap (7 * (m.cells.length : Int)) = 7 * m.cells.length := w64 (by omega) (by omega)
  have w2 : IntKind.i64.wrap (40 + 7 * (m.cells.length : Int)) = 40 + 7 * m.cells.length := w64 (by omega) (by omega)
  have w3 : IntKind.i64.wrap (19 * (m.book.length : Int)) = 19 * m.book.length := w64 (by omega) (by omega)
  have w4 : IntKind.i64.wrap (40 + 7 * (m.cells.length : Int) + 19 * m.book.length) = 40 + 7 * m.cells.length + 19 * m.book.length := w64 (by omega) (by omega)
  have n1 : ¬ ((frameF bitsF m).length : Int) < 12 := by omega
  have n2 : ¬ (40 + 7 * (m.cells.length : Int) + 19 * m.book.length < ((frameF bitsF m).length : Int)) := by omega
  simp -implicitDefEqProofs [frameA, w1, w2, w3, w4, n1, n2]
  have hcp := msg_copy m (by omega) (by omega)
  intro _ _ _
  refine CallK.with hcp (by simp [eM]) ?_
  simp -implicitDefEqProofs [eM]
  refine allocK.intro (fun b2 hb2 => ?_)
  have hbb : ¬ b = b2 := by rintro rfl; simp at hb2
  have hbb' : ¬ b2 = b := fun h => hbb h.symm
  simp -implicitDefEqProofs [hbb, hbb']
  refine CallK.with (msg_frame (withTo m to) hf) (by simp [eM, withTo]) ?_
  rw [right_withTo hr]
  cases ht : betweenB to 0 5
  · have ht' : to < 0 ∨ 5 < to := by
      simp only [betweenB, decide_eq_false_iff_not] at ht
      omega
    by_cases h0 : to < 0
    · simp -implicitDefEqProofs [frameA, h0]
    · have h5 : 5 < to := by omega
      simp -implicitDefEqProofs [frameA, h0, h5]
  have ht' : 0 ≤ to ∧ to ≤ 5 := by simpa [betweenB] using ht
  have n3 : ¬ to < 0 := by omega
  have n4 : ¬ 5 < to := by omega
  have hrt : rightM (withTo m to) = true := by rw [right_withTo hr]; exact ht
  have hl2 := len_frame hrt (fit_bits (m := withTo m to) hf)
  have hc2 : (withTo m to).cells = m.cells := rfl
  have hb2' : (withTo m to).book = m.book := rfl
  rw [hc2, hb2'] at hl2
  simp -implicitDefEqProofs [frameA, n3, n4]
  refine CallK.eq (msg_read _ (by omega)) ?_
  rw [read_frame2 hrt hf]
  simp -implicitDefEqProofs [readA, eM]
  refine allocK.intro (fun b3 hb3 => ?_)
  have h1 : ¬ b3 = b := by rintro rfl; simp [hbb] at hb3
  have h1' : ¬ b = b3 := fun h => h1 h.symm
  have h2 : ¬ b3 = b2 := by rintro rfl; simp at hb3
  have h2' : ¬ b2 = b3 := fun h => h2 h.symm
  simp -implicitDefEqProofs [hbb, hbb', h1, h1', h2, h2']
  refine CallK.with (msg_same (cleanM bitsF m) m) (by simp [eM, cleanM, withTo]) ?_
  rw [sameM_clean]
  have hfr := frame_to hr hf ht
  by_cases he : to = m.to
  · have hfe := hfr.2 he
    simp -implicitDefEqProofs [hbb, hbb', h1, h1', h2, h2', hfe, he]
  · have hfe : ¬ frameF bitsF m = frameF bitsF (withTo m to) := fun h => he (hfr.1 h)
    simp -implicitDefEqProofs [hbb, hbb', h1, h1', h2, h2', hfe, he]
end Go.Proofs.Ytbgifnlaaophcaa

/- The law MsgBack, walked. No condition. -/
set_option linter.unusedSimpArgs false
set_option linter.unusedVariables false
set_option maxRecDepth 10000
namespace Go.Proofs.Ytbgifnlaaophcaa
open Go Go.Rw Go.Proofs
-- a goal is never to be run by the elaborator
attribute [local irreducible] awp aops aop aopsE aeff

def zM : PMsg := ⟨0, 0, 0, 0, 0, ⟨0, 0⟩, [], []⟩
theorem same_zero : sameM zM zM = true := by decide +kernel
theorem burst_read (m : PMsg) (a : Int) (k : BitVec 32) : readF bitsF (burstF (frameF bitsF m) a k) = if burstF (frameF bitsF m) a k = frameF bitsF m then readF bitsF (frameF bitsF m) else none := by
  by_cases h : burstF (frameF bitsF m) a k = frameF bitsF m
  · rw [if_pos h, h]
  · rw [if_neg h]
    unfold readF
    cases ho : openF (burstF (frameF bitsF m) a k) with
    | none => rfl
    | some l2 => exact absurd (burst_found (forms (numsM bitsF m)) a k l2 ho) h
attribute [local irreducible] frameF readF rightM sameM burstF

theorem back_spec (m : PMsg) (a : Int) (k : BitVec 32) (hf : fitM m) (h1 : m.cells.length ≤ 1048576) (h2 : m.book.length ≤ 1048576) (ha : a ≤ 9223372036854775807) : ASpec Try.prog 5 [.agg (eM m), eI a, .v (.int .u32 (n32 k))] (· = .v (.bool true)) := by
  refine ASpec.of_awp Try.func5 (by kernel_rfl) rfl (by rw [Try.results5]) Try.ntmps5 ?_
  simp -implicitDefEqProofs [eM]
  refine allocK.intro (fun b hb => ?_)
  simp -implicitDefEqProofs
  refine CallK.eq alive_spec ?_
  simp -implicitDefEqProofs
  refine CallK.with (msg_frame m hf) (by simp [eM]) ?_
  cases hr : rightM m
  · simp -implicitDefEqProofs [frameA]
    refine CallK.with (msg_right m) (by simp [eM]) ?_
    rw [hr]
    simp -implicitDefEqProofs
  have hl := len_frame hr (fit_bits hf)
  simp -implicitDefEqProofs [frameA]
  refine CallK.eq (msg_read _ (by omega)) ?_
  rw [read_frame2 hr hf]
  simp -implicitDefEqProofs [readA, eM]
  refine allocK.intro (fun b2 hb2 => ?_)
  have hbb : ¬ b = b2 := by rintro rfl; simp at hb2
  have hbb' : ¬ b2 = b := fun h => hbb h.symm
  simp -implicitDefEqProofs [hbb, hbb']
  refine CallK.with (msg_same (cleanM bitsF m) m) (by simp [eM, cleanM]) ?_
  rw [sameM_clean]
  simp -implicitDefEqProofs
  refine CallK.of (crc_burst _ a k (by omega) ha) ?_
  rintro _ ⟨tag, _, rfl⟩
  simp -implicitDefEqProofs
  refine CallK.eq (msg_read _ (by rw [burstF_length]; omega)) ?_
  rw [burst_read]
  by_cases hx : burstF (frameF bitsF m) a k = frameF bitsF m
  · rw [if_pos hx, read_frame2 hr hf]
    simp -implicitDefEqProofs [readA, eM]
    refine allocK.intro (fun b3 hb3 => ?_)
    simp -implicitDefEqProofs [hx]
  · rw [if_neg hx]
    simp -implicitDefEqProofs [readA, eM]
    refine allocK.intro (fun b3 hb3 => ?_)
    simp -implicitDefEqProofs [hx]
    refine CallK.with (msg_same zM zM) (by simp [eM, zM]) ?_
    rw [same_zero]
    simp -implicitDefEqProofs
end Go.Proofs.Ytbgifnlaaophcaa

/- Arguments of the laws on messages, read as plain data. No condition. -/
set_option linter.unusedSimpArgs false
set_option linter.unusedVariables false
set_option maxRecDepth 10000
namespace Go.Proofs.Ytbgifnlaaophcaa
open Go Go.Rw Go.Proofs

theorem own : ownKnob Try.prog.godebug = none := by kernel_rfl
theorem laidOut : laidOutB Try.prog = true := by kernel_rfl

theorem bulkAll_sum {H : Type} : ∀ l : List (DataW H), Rows.uptoBulkAll l = (l.map Rows.uptoBulk).sum
  | [] => by simp [Rows.uptoBulkAll]
  | d :: l => by simp [Rows.uptoBulkAll, bulkAll_sum l]
theorem bulkOK {H : Type} : BulkOK (Rows.uptoBulk (H := H)) where
  one := fun d => by
    cases d with
    | lit l => cases l <;> simp [Rows.uptoBulk]
    | nil => simp [Rows.uptoBulk]
    | ptr d => simp [Rows.uptoBulk]
    | slice elems spare => simp [Rows.uptoBulk]
    | agg parts => simp [Rows.uptoBulk]
    | iface t d => simp [Rows.uptoBulk]
    | map entries => simp [Rows.uptoBulk]
    | held h => simp [Rows.uptoBulk]
  slice := fun e s => by simp only [Rows.uptoBulk, bulkAll_sum]; omega
  agg := fun p => by simp only [Rows.uptoBulk, bulkAll_sum]; omega
theorem bulk_of {H : Type} {l : List (DataW H)} (hk : Rows.uptoSmall H l = true) : Rows.uptoBulkAll l ≤ 1048576 := of_decide_eq_true hk

section
variable {H : Type} {enc0 : TypeId × Value → H} {W : World}
def inI (n : Int) : Prop := -9223372036854775808 ≤ n ∧ n ≤ 9223372036854775807
theorem inI_of {n : Int} (h : IntKind.i64.min ≤ n ∧ n ≤ IntKind.i64.max) : inI n := h
theorem reads_int : Reads Try.prog Rows.uptoBulk enc0 W 3 (fun n : Int => [eI n]) (fun n _ => inI n) := Reads.int Try.underlying3
theorem reads_f64 : Reads Try.prog Rows.uptoBulk enc0 W 50 (fun n : Nat => [AV.v (.float .f64 n)]) (fun n _ => n < 18446744073709551616) := Reads.float Try.underlying50
theorem reads_u32 : Reads Try.prog Rows.uptoBulk enc0 W 38 (fun n : BitVec 32 => [AV.v (.int .u32 (n32 n))]) (fun _ _ => True) := by
  have h : Reads Try.prog Rows.uptoBulk enc0 W 38 (fun n : Int => [AV.v (.int .u32 n)]) (fun n _ => IntKind.u32.min ≤ n ∧ n ≤ IntKind.u32.max) := Reads.int Try.underlying38
  intro fuel cs x hx hb
  obtain ⟨n, h1, h2, h3⟩ := h fuel cs x hx hb
  have e1 : IntKind.u32.min = 0 := rfl
  have e2 : IntKind.u32.max = 4294967295 := rfl
  refine ⟨BitVec.ofNat 32 n.toNat, ?_, trivial⟩
  have e3 : n32 (BitVec.ofNat 32 n.toNat) = n := by
    simp only [n32, BitVec.toNat_ofNat]
    omega
  show Reps _ [AV.v (.int .u32 (n32 _))] cs
  rw [e3]; exact h1
theorem reads_byte : Reads Try.prog Rows.uptoBulk enc0 W 5 encB (fun _ _ => True) := by
  have h : Reads Try.prog Rows.uptoBulk enc0 W 5 (fun n : Int => [AV.v (.int .u8 n)]) (fun n _ => IntKind.u8.min ≤ n ∧ n ≤ IntKind.u8.max) := Reads.int Try.underlying5
  intro fuel cs x hx hb
  obtain ⟨n, h1, h2, h3⟩ := h fuel cs x hx hb
  have e1 : IntKind.u8.min = 0 := rfl
  have e2 : IntKind.u8.max = 255 := rfl
  refine ⟨UInt8.ofNat n.toNat, ?_, trivial⟩
  have e4 : (UInt8.ofNat n.toNat).toNat = n.toNat % 256 := by simp
  have e3 : ((UInt8.ofNat n.toNat).toNat : Int) = n := by rw [e4]; omega
  rw [encB, e3]; exact h1
theorem reads_bytes : Reads Try.prog Rows.uptoBulk enc0 W 30 (fun l : List UInt8 => [AV.sl .no (eB l)]) (fun l n => l.length ≤ n) :=
  (Reads.slice (sz := 1) bulkOK Try.underlying30 (by kernel_rfl) (by omega) reads_byte (by intro a x hx; simp [encB] at hx; subst hx; rfl)).weaken id (fun _ => rfl) fun _ _ h => h.length
theorem reads_view : Reads Try.prog Rows.uptoBulk enc0 W 25 eV (fun v _ => inI v.add ∧ inI v.del) :=
  (Reads.struct bulkOK Try.underlying25 (by kernel_rfl) (.cons (sz := 1) rfl (by kernel_rfl) reads_int (.cons (sz := 1) rfl (by kernel_rfl) reads_int .nil)) (fun _ _ _ ⟨m, k, h1, h2⟩ _ => ⟨m, k, by omega, h2⟩)).weaken (β := PView)
    (fun p => ⟨p.1, p.2.1⟩) (fun p => rfl) (fun p n ⟨m, k, _, h1, m', k', _, h2, _⟩ => ⟨h1, h2⟩)
theorem reads_tag : Reads Try.prog Rows.uptoBulk enc0 W 49 eT (fun v _ => inI v.num ∧ inI v.node) :=
  (Reads.struct bulkOK Try.underlying49 (by kernel_rfl) (.cons (sz := 1) rfl (by kernel_rfl) reads_int (.cons (sz := 1) rfl (by kernel_rfl) reads_int .nil)) (fun _ _ _ ⟨m, k, h1, h2⟩ _ => ⟨m, k, by omega, h2⟩)).weaken (β := PTag)
    (fun p => ⟨p.1, p.2.1⟩) (fun p => rfl) (fun p n ⟨m, k, _, h1, m', k', _, h2, _⟩ => ⟨h1, h2⟩)
def goodC (c : PCell) (_ : Nat) : Prop := inI c.node ∧ inI c.change.add ∧ inI c.change.del
theorem reads_cell : Reads Try.prog Rows.uptoBulk enc0 W 47 eC goodC :=
  (Reads.struct bulkOK Try.underlying47 (by kernel_rfl) (.cons (sz := 1) rfl (by kernel_rfl) reads_int (.cons (sz := 2) rfl (by kernel_rfl) reads_view .nil)) (fun _ _ _ ⟨m, k, h1, h2⟩ _ => ⟨m, k, by omega, h2⟩)).weaken (β := PCell)
    (fun p => ⟨p.1, p.2.1⟩) (fun p => rfl) (fun p n ⟨m, k, _, h1, m', k', _, h2, _⟩ => ⟨h1, h2⟩)
def goodE (x : PEntry) (_ : Nat) : Prop := inI x.key ∧ (inI x.tag.num ∧ inI x.tag.node) ∧ x.value < 18446744073709551616
theorem reads_entry : Reads Try.prog Rows.uptoBulk enc0 W 52 eE goodE :=
  (Reads.struct bulkOK Try.underlying52 (by kernel_rfl) (.cons (sz := 1) rfl (by kernel_rfl) reads_int (.cons (sz := 2) rfl (by kernel_rfl) reads_tag (.cons (sz := 1) rfl (by kernel_rfl) reads_f64 .nil))) (fun _ _ _ ⟨m, k, h1, h2⟩ _ => ⟨m, k, by omega, h2⟩)).weaken (β := PEntry)
    (fun p => ⟨p.1, p.2.1, p.2.2.1⟩) (fun p => rfl) (fun p n ⟨m, k, _, h1, m', k', _, h2, m2, k2, _, h3, _⟩ => ⟨h1, h2, h3⟩)
theorem reads_cells : Reads Try.prog Rows.uptoBulk enc0 W 26 (fun l : List PCell => [AV.sl .no (eCs l)]) (fun l n => Goods goodC l n) :=
  Reads.slice (sz := 3) bulkOK Try.underlying26 (by kernel_rfl) (by omega) reads_cell (by intro a x hx; simp [eC] at hx; rcases hx with rfl | rfl | rfl <;> rfl)
theorem reads_entries : Reads Try.prog Rows.uptoBulk enc0 W 27 (fun l : List PEntry => [AV.sl .no (eEs l)]) (fun l n => Goods goodE l n) :=
  Reads.slice (sz := 4) bulkOK Try.underlying27 (by kernel_rfl) (by omega) reads_entry (by intro a x hx; simp [eE] at hx; rcases hx with rfl | rfl | rfl | rfl <;> rfl)
structure GoodM (m : PMsg) (n : Nat) : Prop where
  kind : inI m.kind
  frm : inI m.frm
  to : inI m.to
  inc : inI m.inc
  seq : inI m.seq
  view : inI m.view.add ∧ inI m.view.del
  lists : ∃ a b, a + b ≤ n ∧ Goods goodC m.cells a ∧ Goods goodE m.book b
set_option maxHeartbeats 2000000 in
theorem reads_msg : Reads Try.prog Rows.uptoBulk enc0 W 29 eM GoodM :=
  (Reads.struct bulkOK Try.underlying29 (by kernel_rfl) (.cons (sz := 1) rfl (by kernel_rfl) reads_int (.cons (sz := 1) rfl (by kernel_rfl) reads_int (.cons (sz := 1) rfl (by kernel_rfl) reads_int (.cons (sz := 1) rfl (by kernel_rfl) reads_int (.cons (sz := 1) rfl (by kernel_rfl) reads_int
    (.cons (sz := 2) rfl (by kernel_rfl) reads_view (.cons (sz := 1) rfl (by kernel_rfl) reads_cells (.cons (sz := 1) rfl (by kernel_rfl) reads_entries .nil)))))))) (fun _ _ _ ⟨m, k, h1, h2⟩ _ => ⟨m, k, by omega, h2⟩)).weaken (β := PMsg)
    (fun p => ⟨p.1, p.2.1, p.2.2.1, p.2.2.2.1, p.2.2.2.2.1, p.2.2.2.2.2.1, p.2.2.2.2.2.2.1, p.2.2.2.2.2.2.2.1⟩) (fun p => rfl)
    (fun p n ⟨_, _, l1, h1, _, _, l2, h2, _, _, l3, h3, _, _, l4, h4, _, _, l5, h5, _, _, l6, h6, _, _, l7, h7, _, _, l8, h8, _⟩ => ⟨h1, h2, h3, h4, h5, h6, _, _, by omega, h7, h8⟩)
theorem GoodM.lens {m : PMsg} {n : Nat} (h : GoodM m n) : m.cells.length + m.book.length ≤ n := by
  obtain ⟨a, b, h1, h2, h3⟩ := h.lists
  have := h2.length; have := h3.length
  omega
theorem GoodM.fit {m : PMsg} {n : Nat} (h : GoodM m n) : ∀ x ∈ m.book, x.value < 18446744073709551616 := by
  obtain ⟨a, b, h1, h2, h3⟩ := h.lists
  intro x hx
  obtain ⟨_, _, h4⟩ := h3.mem x hx
  exact h4.2.2

def zeroMsg : Value := .agg #[.int .i64 0, .int .i64 0, .int .i64 0, .int .i64 0, .int .i64 0, .int .i64 0, .int .i64 0, .slice none 0 0, .slice none 0 0]
def z0 : DataW H := .lit (.int .i64 0)
def zeroMsgD : DataW H := .agg [z0, z0, z0, z0, z0, .agg [z0, z0], .nil, .nil]
theorem reps_two {I : Imm} {x1 x2 : AV} {y1 y2 : Value} (h1 : Rep I x1 y1) (h2 : Rep I x2 y2) : Reps I [x1, x2] [y1, y2] := cell_reps (reps_one h1) [x2] [y2] (reps_one h2)
theorem reps_three {I : Imm} {x1 x2 x3 : AV} {y1 y2 y3 : Value} (h1 : Rep I x1 y1) (h2 : Rep I x2 y2) (h3 : Rep I x3 y3) : Reps I [x1, x2, x3] [y1, y2, y3] := cell_reps (reps_one h1) [x2, x3] [y2, y3] (reps_two h2 h3)
/-- an argument that is a struct -/
theorem arg_agg {t : TypeId} {fs : Array Field} {α : Type} {enc : α → List AV} {good : α → Nat → Prop} (hr : Reads Try.prog Rows.uptoBulk enc0 W t enc good) (ht : Try.prog.underlying t = some (.struct fs)) {v : Value} {d : DataW H} {p : List MemPlace} {base : Nat}
    (hok : Value.okWide Try.prog W .any base t v) (h : DataW.Trod enc0 Try.prog W 0 (fun _ => true) true t v d p) (hb : Rows.uptoBulk d ≤ 1048576) : ∃ a, Rep (allI W) (.agg (enc a)) v ∧ good a (Rows.uptoBulk d) := by
  simp only [Value.okWide, ht] at hok
  obtain ⟨cs, rfl, _, _⟩ := hok
  obtain ⟨fuel, hf⟩ := h
  obtain ⟨a, h1, h2⟩ := hr fuel _ _ hf (show Rows.uptoBulk d ≤ 281474976710656 by omega)
  refine ⟨a, ?_, h2⟩
  have : cs = (Value.agg cs).cells.toList.toArray := by simp [Value.cells]
  conv => rhs; rw [this]
  exact .agg _ h1.1 h1.2
/-- an argument of one cell -/
theorem arg_one {t : TypeId} {α : Type} {enc : α → AV} {good : α → Nat → Prop} (hr : Reads Try.prog Rows.uptoBulk enc0 W t (fun a => [enc a]) good) {v : Value} {d : DataW H} {p : List MemPlace}
    (hv : v.cells.toList = [v]) (h : DataW.Trod enc0 Try.prog W 0 (fun _ => true) true t v d p) (hb : Rows.uptoBulk d ≤ 1048576) : ∃ a, Rep (allI W) (enc a) v ∧ good a (Rows.uptoBulk d) := by
  obtain ⟨fuel, hf⟩ := h
  obtain ⟨a, h1, h2⟩ := hr fuel _ _ hf (show Rows.uptoBulk d ≤ 281474976710656 by omega)
  rw [hv] at h1
  exact ⟨a, h1.2 0 _ _ rfl rfl, h2⟩
/-- a value that is no struct is one cell -/
theorem one_cell {t : TypeId} {u : TypeDesc} (ht : Try.prog.underlying t = some u) (h1 : ∀ fs, u ≠ .struct fs) (h2 : ∀ n e, u ≠ .array n e) {v : Value} {base : Nat} (hok : Value.okWide Try.prog W .any base t v) : v.cells.toList = [v] := by
  unfold Value.okWide at hok
  rw [ht] at hok
  have hcell : Cell.okWide Try.prog W .any base t v := by
    cases u <;> first | exact hok | exact absurd rfl (h1 _) | exact absurd rfl (h2 _ _)
  cases v with
  | agg cs =>
    unfold Cell.okWide at hcell
    rw [ht] at hcell
    cases u <;> simp [Cell.ok, ht] at hcell
  | _ => rfl
end
end Go.Proofs.Ytbgifnlaaophcaa
