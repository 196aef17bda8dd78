/- Parts of the proof: what is used by the law. No condition. -/
import Derived.Test.YtbgifnlaaophcaaGB
set_option linter.unusedSimpArgs false
set_option linter.unusedVariables false
/- The law MsgNames, walked. No condition. -/
set_option linter.unusedSimpArgs false
set_option linter.unusedVariables false
set_option maxRecDepth 10000
namespace Go.Proofs.Ytbgifnlaaophcaa
open Go Go.Rw Go.Proofs
-- a goal is never to be run by the elaborator
attribute [local irreducible] awp aops aop aopsE aeff

def m0 : PMsg := ⟨2, 1, 2, 3, 4, ⟨7, 0⟩, [], []⟩
def a0 : PMsg := ⟨6, 2, 1, 3, 4, ⟨7, 0⟩, [], []⟩
theorem m0_right : rightM m0 = true := by decide +kernel
theorem m0_read : readF bitsF (frameF bitsF m0) = some m0 := by decide +kernel
theorem m0_burst : readF bitsF (burstF (frameF bitsF m0) 9 1#32) = none := by decide +kernel
theorem m0_same : sameM m0 m0 = true := by decide +kernel
theorem m0_answers : answersM m0 a0 = true := by decide +kernel
theorem m0_len : (frameF bitsF m0).length ≤ 1000 := by decide +kernel
attribute [local irreducible] frameF readF burstF

theorem alive_spec : ASpec Try.prog 18 [] (· = .v (.bool true)) := by
  refine ASpec.of_awp Try.func18 (by kernel_rfl) rfl (by rw [Try.results18]) Try.ntmps18 ?_
  simp -implicitDefEqProofs
  refine allocK.intro (fun b hb => ?_)
  simp -implicitDefEqProofs
  have hl := m0_len
  refine CallK.with (msg_frame m0 (by intro x hx; cases hx)) (by simp [m0, eM]) ?_
  simp -implicitDefEqProofs [m0_right, frameA]
  refine CallK.eq (msg_read _ (by omega)) ?_
  rw [m0_read]
  simp -implicitDefEqProofs [readA, eM]
  refine allocK.intro (fun b2 hb2 => ?_)
  have hbb : ¬ b = b2 := by rintro rfl; simp at hb2
  have hbb' : ¬ b2 = b := fun h => hbb h.symm
  simp -implicitDefEqProofs [hbb, hbb']
  refine CallK.of (crc_burst _ 9 1#32 (by omega) (by omega)) ?_
  rintro _ ⟨tag, _, rfl⟩
  simp -implicitDefEqProofs
  refine CallK.eq (msg_read _ (by rw [burstF_length]; omega)) ?_
  rw [m0_burst]
  simp -implicitDefEqProofs [readA, eM]
  refine allocK.intro (fun b3 hb3 => ?_)
  have h1 : ¬ b3 = b := by rintro rfl; simp [hbb] at hb3
  have h1' : ¬ b = b3 := fun h => h1 h.symm
  have h2 : ¬ b3 = b2 := by rintro rfl; simp at hb3
  have h2' : ¬ b2 = b3 := fun h => h2 h.symm
  simp -implicitDefEqProofs [hbb, hbb', h1, h1', h2, h2']
  refine CallK.with (msg_same m0 m0) (by simp [m0, eM]) ?_
  simp -implicitDefEqProofs [m0_same, hbb, hbb', h1, h1', h2, h2']
  refine CallK.with (msg_answers m0 a0) (by simp [m0, a0, eM]) ?_
  simp -implicitDefEqProofs [m0_answers]

theorem names_spec : ASpec Try.prog 3 [] (· = .v (.bool true)) := by
  refine ASpec.of_awp Try.func3 (by kernel_rfl) rfl (by rw [Try.results3]) Try.ntmps3 ?_
  simp -implicitDefEqProofs
  refine CallK.eq alive_spec ?_
  simp -implicitDefEqProofs
  have hr : rightM ⟨0, 0, 0, 0, 0, ⟨0, 0⟩, [], []⟩ = false := by decide +kernel
  refine CallK.with (msg_right ⟨0, 0, 0, 0, 0, ⟨0, 0⟩, [], []⟩) (by simp [eM]) ?_
  simp -implicitDefEqProofs [hr]
end Go.Proofs.Ytbgifnlaaophcaa

/- The law MsgOne, walked. No condition. -/
set_option linter.unusedSimpArgs false
set_option linter.unusedVariables false
set_option maxRecDepth 10000
namespace Go.Proofs.Ytbgifnlaaophcaa
open Go Go.Rw Go.Proofs
-- a goal is never to be run by the elaborator
attribute [local irreducible] awp aops aop aopsE aeff

def cnt1 (q : PMsg) (K F : Int) : Int := if q.kind ≤ 4 ∧ (kindN q.kind < K ∨ (kindN q.kind = K ∧ q.to < F)) then 1 else 0
def prob (q : PMsg) (K F : Int) : PMsg := ⟨K, F, q.frm, q.inc, q.seq, q.view, [], []⟩
theorem kindN_ge (k : Int) : 5 ≤ kindN k ∧ kindN k ≤ 7 := by
  unfold kindN; split
  · omega
  · split <;> omega
theorem prob_answers (q : PMsg) (hq : RightM q) (K F : Int) : answersM q (prob q K F) = decide (q.kind ≤ 4 ∧ K = kindN q.kind ∧ F = q.to) := by
  have := hq.kind
  have h0 : 0 ≤ q.kind := this.1
  simp only [answersM, prob, decide_true, Bool.and_true, h0]
  by_cases h1 : q.kind ≤ 4 <;> by_cases h2 : K = kindN q.kind <;> by_cases h3 : F = q.to <;> simp [h1, h2, h3]
theorem prob_back (q : PMsg) (K F : Int) (hK : 5 ≤ K) : answersM (prob q K F) q = false := by
  have : ¬ K ≤ 4 := by omega
  simp [answersM, prob, this]
theorem cnt1_step (q : PMsg) (hq : RightM q) (K F : Int) : cnt1 q K (F + 1) = if answersM q (prob q K F) = true then cnt1 q K F + 1 else cnt1 q K F := by
  rw [prob_answers q hq]
  unfold cnt1
  by_cases h1 : q.kind ≤ 4
  · simp only [h1, true_and]
    by_cases h2 : K = kindN q.kind
    · subst h2
      by_cases h3 : F = q.to
      · subst h3; simp; omega
      · have e1 : (q.to < F + 1) ↔ q.to < F := by omega
        simp [h3, e1]
    · have h2' : ¬ kindN q.kind = K := fun h => h2 h.symm
      simp [h2, h2']
  · simp [h1]
theorem cnt1_row (q : PMsg) (hq : RightM q) (K : Int) : cnt1 q K 6 = cnt1 q (K + 1) 0 := by
  have := hq.to
  unfold cnt1
  by_cases h1 : q.kind ≤ 4
  · have e1 : (kindN q.kind < K ∨ kindN q.kind = K ∧ q.to < 6) ↔ (kindN q.kind < K + 1 ∨ kindN q.kind = K + 1 ∧ q.to < 0) := by omega
    simp only [h1, true_and, e1]
  · simp [h1]
theorem cnt1_end (q : PMsg) (hq : RightM q) : cnt1 q 8 0 = if q.kind ≤ 4 then 1 else 0 := by
  have := kindN_ge q.kind
  unfold cnt1
  by_cases h1 : q.kind ≤ 4
  · have e1 : kindN q.kind < 8 := by omega
    simp [h1, e1]
  · simp [h1]
theorem cnt1_le (q : PMsg) (K F : Int) : 0 ≤ cnt1 q K F ∧ cnt1 q K F ≤ 1 := by
  unfold cnt1; split <;> omega

def OneI (q a : PMsg) (b b2 : Nat) (t : Nat → AV) (h : Nat → Option (List AV)) : Prop := ∃ K : Nat, t 2 = .ptr b 0 ∧ t 3 = .ptr b2 0 ∧ t 5 = eI (cnt1 q K 0) ∧ t 6 = eI K ∧ K ≤ 8 ∧ h b = some (eM q) ∧ h b2 = some (eM a)
def OneJ (q a : PMsg) (b b2 K : Nat) (t : Nat → AV) (h : Nat → Option (List AV)) : Prop := ∃ F : Nat, t 2 = .ptr b 0 ∧ t 3 = .ptr b2 0 ∧ t 5 = eI (cnt1 q K F) ∧ t 6 = eI K ∧ t 7 = eI F ∧ F ≤ 6 ∧ h b = some (eM q) ∧ h b2 = some (eM a)
def OneE (q a : PMsg) (b b2 : Nat) (t : Nat → AV) (h : Nat → Option (List AV)) : Prop := t 2 = .ptr b 0 ∧ t 3 = .ptr b2 0 ∧ t 5 = eI (if q.kind ≤ 4 then 1 else 0) ∧ h b = some (eM q) ∧ h b2 = some (eM a)

theorem one_spec (q a : PMsg) : ASpec Try.prog 6 [.agg (eM q), .agg (eM a)] (· = .v (.bool true)) := by
  refine ASpec.of_awp Try.func6 (by kernel_rfl) rfl (by rw [Try.results6]) Try.ntmps6 ?_
  simp -implicitDefEqProofs [eM]
  refine allocK.intro (fun b hb => ?_)
  simp -implicitDefEqProofs
  refine allocK.intro (fun b2 hb2 => ?_)
  have hbb : ¬ b = b2 := by rintro rfl; simp at hb2
  have hbb' : ¬ b2 = b := fun h => hbb h.symm
  simp -implicitDefEqProofs [hbb, hbb']
  refine CallK.eq alive_spec ?_
  simp -implicitDefEqProofs [hbb, hbb']
  refine CallK.with (msg_right q) (by simp [eM]) ?_
  cases hr : rightM q
  · simp -implicitDefEqProofs
  have R := rightM_of hr
  simp -implicitDefEqProofs
  refine loopK.post (OneI q a b b2) (fun t => 8 - natOf (t 6)) (OneE q a b b2) ?_ ?_ ?_
  · refine ⟨0, by simp, by simp, ?_, by simp, by omega, by simp [hbb, hbb', eM], by simp [hbb, hbb', eM]⟩
    have : cnt1 q 0 0 = 0 := by
      have := kindN_ge q.kind
      have := R.to
      unfold cnt1
      rw [if_neg (by omega)]
    simp [this]
  · rintro t hh ⟨K, g2, g3, g5, g6, hK, gb, gb2⟩
    simp -implicitDefEqProofs [g6]
    refine branch_dec (fun hlt => ?_) (fun hlt => ?_)
    · have hlt : K < 8 := by omega
      have hK1 : IntKind.i64.wrap ((K : Int) + 1) = (K : Int) + 1 := w64 (by omega) (by omega)
      simp -implicitDefEqProofs
      refine loopK.intro (OneJ q a b b2 K) (fun t => 6 - natOf (t 7)) ?_ ?_
      · exact ⟨0, by simp [g2], by simp [g3], by simp [g5], by simp [g6], by simp, by omega, gb, gb2⟩
      clear g2 g3 g5 gb gb2
      rintro t2 hh2 ⟨F, g2, g3, g5, g6', g7, hF, gb, gb2⟩
      simp -implicitDefEqProofs [g7]
      refine branch_dec (fun hlt2 => ?_) (fun hlt2 => ?_)
      · have hlt2 : F < 6 := by omega
        have hF1 : IntKind.i64.wrap ((F : Int) + 1) = (F : Int) + 1 := w64 (by omega) (by omega)
        have hcl := cnt1_le q K F
        have hc1 : IntKind.i64.wrap (cnt1 q K F + 1) = cnt1 q K F + 1 := w64 (by omega) (by omega)
        simp -implicitDefEqProofs [g2, g6', g7, gb, eM]
        refine allocK.intro (fun b3 hb3 => ?_)
        have h1 : ¬ b3 = b := by rintro rfl; rw [gb] at hb3; simp at hb3
        have h1' : ¬ b = b3 := fun h => h1 h.symm
        have h2 : ¬ b3 = b2 := by rintro rfl; rw [gb2] at hb3; simp at hb3
        have h2' : ¬ b2 = b3 := fun h => h2 h.symm
        simp -implicitDefEqProofs [g2, gb, eM, h1, h1', h2, h2']
        refine CallK.with (msg_answers q (prob q K F)) (by simp [eM, prob]) ?_
        have hst := cnt1_step q R K F
        cases hans : answersM q (prob q K F)
        · rw [if_neg (by simp [hans])] at hst
          simp -implicitDefEqProofs [g7, hF1]
          exact ⟨⟨F + 1, by simp [g2], by simp [g3], by simp [g5, hst], by simp [g6'], by simp, by omega, by simp [h1', gb], by simp [h2', gb2]⟩, by omega⟩
        · rw [if_pos hans] at hst
          rw [prob_answers q R] at hans
          have hans := of_decide_eq_true hans
          have hkk := kindN_ge q.kind
          have e1 : (F : Int) = q.to := hans.2.2
          have e2 : ¬ (K : Int) < 5 := by omega
          simp -implicitDefEqProofs [g2, g5, g6', g7, gb, eM, h1, h1', h2, h2', hc1, e1, e2]
          refine CallK.with (msg_answers (prob q K F) q) (by simp [eM, prob, e1]) ?_
          rw [prob_back q K F (by omega)]
          have hF1' : IntKind.i64.wrap (q.to + 1) = q.to + 1 := by rw [← e1]; exact hF1
          simp -implicitDefEqProofs [g7, e1, hF1', e2]
          refine ⟨⟨F + 1, by simp [g2], by simp [g3], by simp [hst]; rw [← e1]; exact hc1, by simp [g6'], by simp [e1], by omega, by simp [h1', gb], by simp [h2', gb2]⟩, by omega⟩
      · have hF' : F = 6 := by omega
        subst hF'
        have hrow := cnt1_row q R K
        simp -implicitDefEqProofs [g6', hK1]
        exact ⟨⟨K + 1, by simp [g2], by simp [g3], by simp [g5]; exact hrow, by simp, by omega, gb, gb2⟩, by simp [g6]; omega⟩
    · have hK' : K = 8 := by omega
      subst hK'
      simp -implicitDefEqProofs
      refine ⟨g2, g3, ?_, gb, gb2⟩
      have := cnt1_end q R
      simp [g5]
      exact this
  rintro t hh ⟨g2, g3, g5, gb, gb2⟩
  simp -implicitDefEqProofs [g2, g3, gb, gb2, eM]
  refine CallK.with (msg_answers q a) (by simp [eM]) ?_
  have hk0 := R.kind
  cases hans : answersM q a
  · by_cases k4 : q.kind ≤ 4
    · have k5 : q.kind < 5 := by omega
      by_cases e1 : a.inc = q.inc
      · by_cases e2 : a.seq = q.seq
        · by_cases e3 : a.view.add = q.view.add
          · by_cases e4 : a.view.del = q.view.del
            · by_cases e5 : a.frm = q.to
              · by_cases e6 : a.to = q.frm
                · have hk : ¬ a.kind = kindN q.kind := by
                    intro hk
                    simp [answersM, hk0.1, k4, e1, e2, e3, e4, e5, e6, hk] at hans
                  by_cases e7 : a.kind = 5
                  · have e8 : ¬ q.kind = 0 := by
                      intro h8
                      rw [e7, h8] at hk
                      exact hk rfl
                    simp -implicitDefEqProofs [g2, g3, g5, gb, gb2, eM, e1, e2, e3, e4, e5, e6, e7, e8, k4]
                  · simp -implicitDefEqProofs [g2, g3, g5, gb, gb2, eM, e1, e2, e3, e4, e5, e6, e7, k4]
                · simp -implicitDefEqProofs [g2, g3, g5, gb, gb2, eM, e1, e2, e3, e4, e5, e6, k4, k5]
              · simp -implicitDefEqProofs [g2, g3, g5, gb, gb2, eM, e1, e2, e3, e4, e5, k4, k5]
            · have e4' : (a.view.del == q.view.del) = false := by simpa using e4
              simp -implicitDefEqProofs [g2, g3, g5, gb, gb2, eM, e1, e2, e3, e4, e4', k4, k5]
          · have e3' : (a.view.add == q.view.add) = false := by simpa using e3
            simp -implicitDefEqProofs [g2, g3, g5, gb, gb2, eM, e1, e2, e3, e3', k4, k5]
        · simp -implicitDefEqProofs [g2, g3, g5, gb, gb2, eM, e1, e2, k4, k5]
      · simp -implicitDefEqProofs [g2, g3, g5, gb, gb2, eM, e1, k4, k5]
    · have k5 : ¬ q.kind < 5 := by omega
      by_cases e1 : a.inc = q.inc
      · by_cases e2 : a.seq = q.seq
        · by_cases e3 : a.view.add = q.view.add
          · by_cases e4 : a.view.del = q.view.del
            · by_cases e5 : a.frm = q.to
              · by_cases e6 : a.to = q.frm
                · simp -implicitDefEqProofs [g2, g3, g5, gb, gb2, eM, e1, e2, e3, e4, e5, e6, k4, k5]
                · simp -implicitDefEqProofs [g2, g3, g5, gb, gb2, eM, e1, e2, e3, e4, e5, e6, k4, k5]
              · simp -implicitDefEqProofs [g2, g3, g5, gb, gb2, eM, e1, e2, e3, e4, e5, k4, k5]
            · have e4' : (a.view.del == q.view.del) = false := by simpa using e4
              simp -implicitDefEqProofs [g2, g3, g5, gb, gb2, eM, e1, e2, e3, e4, e4', k4, k5]
          · have e3' : (a.view.add == q.view.add) = false := by simpa using e3
            simp -implicitDefEqProofs [g2, g3, g5, gb, gb2, eM, e1, e2, e3, e3', k4, k5]
        · simp -implicitDefEqProofs [g2, g3, g5, gb, gb2, eM, e1, e2, k4, k5]
      · simp -implicitDefEqProofs [g2, g3, g5, gb, gb2, eM, e1, k4, k5]
  · have hk4 : q.kind ≤ 4 := by
      by_cases h : q.kind ≤ 4
      · exact h
      · simp [answersM, h] at hans
    have k5 : q.kind < 5 := by omega
    simp -implicitDefEqProofs [g2, g5, gb, eM, hk4, k5]
end Go.Proofs.Ytbgifnlaaophcaa

/- The law MsgShort, walked. No condition. -/
set_option linter.unusedSimpArgs false
set_option linter.unusedVariables false
set_option maxRecDepth 10000
namespace Go.Proofs.Ytbgifnlaaophcaa
open Go Go.Rw Go.Proofs
-- a goal is never to be run by the elaborator
attribute [local irreducible] awp aops aop aopsE aeff

def withTo (m : PMsg) (to : Int) : PMsg := ⟨m.kind, m.frm, to, m.inc, m.seq, m.view, m.cells, m.book⟩
theorem right_withTo {m : PMsg} (hr : rightM m = true) (to : Int) : rightM (withTo m to) = betweenB to 0 5 := by
  simp only [rightM, Bool.and_eq_true] at hr
  obtain ⟨⟨⟨⟨⟨⟨⟨⟨⟨q1, q2⟩, q3⟩, q4⟩, q5⟩, q6⟩, q7⟩, q8⟩, q9⟩, q10⟩ := hr
  have e : rightM (withTo m to) = (betweenB m.kind 0 7 && betweenB m.frm 0 5 && betweenB to 0 5 && betweenB m.inc 1 1000000 && betweenB m.seq 1 1000000 &&
    (decide (m.cells = []) || decide (m.kind = 1) || decide (m.kind = 5)) && (decide (m.book = []) || decide (m.kind = 3) || decide (m.kind = 6)) && rightV m.view && checkC (-1) m.cells && checkE (-1) m.book) := rfl
  rw [e, q1, q2, q4, q5, q6, q7, q8, q9, q10]
  simp
theorem bitsF_idem (b : Nat) : bitsF (bitsF b) = bitsF b := cleanB_idem _ b
theorem fit_bits {m : PMsg} (hf : fitM m) : ∀ x ∈ m.book, bitsF x.value < 18446744073709551616 := fun x hx => bitsF_lt (hf x hx)
theorem sameEs_clean : ∀ l : List PEntry, sameEs (l.map (cleanE bitsF)) l = true
  | [] => rfl
  | x :: l => by
    have h := sameE_clean x bitsF bitsF_idem
    rw [List.map_cons, sameEs, sameEs_clean l, Bool.and_true]
    exact h
theorem sameM_clean (m : PMsg) : sameM (cleanM bitsF m) m = true := by
  simp [sameM, headM, cleanM, sameEs_clean]
theorem read_frame2 {m : PMsg} (hr : rightM m = true) (hf : fitM m) : readF bitsF (frameF bitsF m) = some (cleanM bitsF m) := read_frame bitsF_idem hr (fit_bits hf)
theorem frame_to {m : PMsg} (hr : rightM m = true) (hf : fitM m) {to : Int} (ht : betweenB to 0 5 = true) : (frameF bitsF m = frameF bitsF (withTo m to)) ↔ to = m.to := by
  constructor
  · intro h
    have a := read_frame2 hr hf
    have b := read_frame2 (m := withTo m to) (by rw [right_withTo hr]; exact ht) hf
    rw [h, b] at a
    have := congrArg PMsg.to (Option.some.inj a)
    exact this
  · rintro rfl
    rfl
attribute [local irreducible] frameF readF rightM sameM

theorem short_spec (m : PMsg) (to : Int) (hf : fitM m) (h1 : m.cells.length ≤ 1048576) (h2 : m.book.length ≤ 1048576) : ASpec Try.prog 9 [.agg (eM m), eI to] (· = .v (.bool true)) := by
  refine ASpec.of_awp Try.func9 (by kernel_rfl) rfl (by rw [Try.results9]) Try.ntmps9 ?_
  simp -implicitDefEqProofs [eM]
  refine allocK.intro (fun b hb => ?_)
  simp -implicitDefEqProofs
  refine CallK.eq alive_spec ?_
  simp -implicitDefEqProofs
  refine CallK.with (msg_frame m hf) (by simp [eM]) ?_
  cases hr : rightM m
  · simp -implicitDefEqProofs [frameA]
  have hl := len_frame hr (fit_bits hf)
  have w1 : IntKind.i64.wrap (7 * (m.cells.length : Int)) = 7 * m.cells.length := w64 (by omega) (by omega)
  have w2 : IntKind.i64.wrap (40 + 7 * (m.cells.length : Int)) = 40 + 7 * m.cells.length := w64 (by omega) (by omega)
  have w3 : IntKind.i64.wrap (19 * (m.book.length : Int)) = 19 * m.book.length := w64 (by omega) (by omega)
  have w4 : IntKind.i64.wrap (40 + 7 * (m.cells.length : Int) + 19 * m.book.length) = 40 + 7 * m.cells.length + 19 * m.book.length := w64 (by omega) (by omega)
  have n1 : ¬ ((frameF bitsF m).length : Int) < 12 := by omega
  have n2 : ¬ (40 + 7 * (m.cells.length : Int) + 19 * m.book.length < ((frameF bitsF m).length : Int)) := by omega
  simp -implicitDefEqProofs [frameA, w1, w2, w3, w4, n1, n2]
  have hcp := msg_copy m (by omega) (by omega)
  intro _ _ _
  refine CallK.with hcp (by simp [eM]) ?_
  simp -implicitDefEqProofs [eM]
  refine allocK.intro (fun b2 hb2 => ?_)
  have hbb : ¬ b = b2 := by rintro rfl; simp at hb2
  have hbb' : ¬ b2 = b := fun h => hbb h.symm
  simp -implicitDefEqProofs [hbb, hbb']
  refine CallK.with (msg_frame (withTo m to) hf) (by simp [eM, withTo]) ?_
  rw [right_withTo hr]
  cases ht : betweenB to 0 5
  · have ht' : to < 0 ∨ 5 < to := by
      simp only [betweenB, decide_eq_false_iff_not] at ht
      omega
    by_cases h0 : to < 0
    · simp -implicitDefEqProofs [frameA, h0]
    · have h5 : 5 < to := by omega
      simp -implicitDefEqProofs [frameA, h0, h5]
  have ht' : 0 ≤ to ∧ to ≤ 5 := by simpa [betweenB] using ht
  have n3 : ¬ to < 0 := by omega
  have n4 : ¬ 5 < to := by omega
  have hrt : rightM (withTo m to) = true := by rw [right_withTo hr]; exact ht
  have hl2 := len_frame hrt (fit_bits (m := withTo m to) hf)
  have hc2 : (withTo m to).cells = m.cells := rfl
  have hb2' : (withTo m to).book = m.book := rfl
  rw [hc2, hb2'] at hl2
  simp -implicitDefEqProofs [frameA, n3, n4]
  refine CallK.eq (msg_read _ (by omega)) ?_
  rw [read_frame2 hrt hf]
  simp -implicitDefEqProofs [readA, eM]
  refine allocK.intro (fun b3 hb3 => ?_)
  have h1 : ¬ b3 = b := by rintro rfl; simp [hbb] at hb3
  have h1' : ¬ b = b3 := fun h => h1 h.symm
  have h2 : ¬ b3 = b2 := by rintro rfl; simp at hb3
  have h2' : ¬ b2 = b3 := fun h => h2 h.symm
  simp -implicitDefEqProofs [hbb, hbb', h1, h1', h2, h2']
  refine CallK.with (msg_same (cleanM bitsF m) m) (by simp [eM, cleanM, withTo]) ?_
  rw [sameM_clean]
  have hfr := frame_to hr hf ht
  by_cases he : to = m.to
  · have hfe := hfr.2 he
    simp -implicitDefEqProofs [hbb, hbb', h1, h1', h2, h2', hfe, he]
  · have hfe : ¬ frameF bitsF m = frameF bitsF (withTo m to) := fun h => he (hfr.1 h)
    simp -implicitDefEqProofs [hbb, hbb', h1, h1', h2, h2', hfe, he]
end Go.Proofs.Ytbgifnlaaophcaa

/- The law MsgBack, walked. No condition. -/
set_option linter.unusedSimpArgs false
set_option linter.unusedVariables false
set_option maxRecDepth 10000
namespace Go.Proofs.Ytbgifnlaaophcaa
open Go Go.Rw Go.Proofs
-- a goal is never to be run by the elaborator
attribute [local irreducible] awp aops aop aopsE aeff

def zM : PMsg := ⟨0, 0, 0, 0, 0, ⟨0, 0⟩, [], []⟩
theorem same_zero : sameM zM zM = true := by decide +kernel
theorem burst_read (m : PMsg) (a : Int) (k : BitVec 32) : readF bitsF (burstF (frameF bitsF m) a k) = if burstF (frameF bitsF m) a k = frameF bitsF m then readF bitsF (frameF bitsF m) else none := by
  by_cases h : burstF (frameF bitsF m) a k = frameF bitsF m
  · rw [if_pos h, h]
  · rw [if_neg h]
    unfold readF
    cases ho : openF (burstF (frameF bitsF m) a k) with
    | none => rfl
    | some l2 => exact absurd (burst_found (forms (numsM bitsF m)) a k l2 ho) h
attribute [local irreducible] frameF readF rightM sameM burstF

theorem back_spec (m : PMsg) (a : Int) (k : BitVec 32) (hf : fitM m) (h1 : m.cells.length ≤ 1048576) (h2 : m.book.length ≤ 1048576) (ha : a ≤ 9223372036854775807) : ASpec Try.prog 5 [.agg (eM m), eI a, .v (.int .u32 (n32 k))] (· = .v (.bool true)) := by
  refine ASpec.of_awp Try.func5 (by kernel_rfl) rfl (by rw [Try.results5]) Try.ntmps5 ?_
  simp -implicitDefEqProofs [eM]
  refine allocK.intro (fun b hb => ?_)
  simp -implicitDefEqProofs
  refine CallK.eq alive_spec ?_
  simp -implicitDefEqProofs
  refine CallK.with (msg_frame m hf) (by simp [eM]) ?_
  cases hr : rightM m
  · simp -implicitDefEqProofs [frameA]
    refine CallK.with (msg_right m) (by simp [eM]) ?_
    rw [hr]
    simp -implicitDefEqProofs
  have hl := len_frame hr (fit_bits hf)
  simp -implicitDefEqProofs [frameA]
  refine CallK.eq (msg_read _ (by omega)) ?_
  rw [read_frame2 hr hf]
  simp -implicitDefEqProofs [readA, eM]
  refine allocK.intro (fun b2 hb2 => ?_)
  have hbb : ¬ b = b2 := by rintro rfl; simp at hb2
  have hbb' : ¬ b2 = b := fun h => hbb h.symm
  simp -implicitDefEqProofs [hbb, hbb']
  refine CallK.with (msg_same (cleanM bitsF m) m) (by simp [eM, cleanM]) ?_
  rw [sameM_clean]
  simp -implicitDefEqProofs
  refine CallK.of (crc_burst _ a k (by omega) ha) ?_
  rintro _ ⟨tag, _, rfl⟩
  simp -implicitDefEqProofs
  refine CallK.eq (msg_read _ (by rw [burstF_length]; omega)) ?_
  rw [burst_read]
  by_cases hx : burstF (frameF bitsF m) a k = frameF bitsF m
  · rw [if_pos hx, read_frame2 hr hf]
    simp -implicitDefEqProofs [readA, eM]
    refine allocK.intro (fun b3 hb3 => ?_)
    simp -implicitDefEqProofs [hx]
  · rw [if_neg hx]
    simp -implicitDefEqProofs [readA, eM]
    refine allocK.intro (fun b3 hb3 => ?_)
    simp -implicitDefEqProofs [hx]
    refine CallK.with (msg_same zM zM) (by simp [eM, zM]) ?_
    rw [same_zero]
    simp -implicitDefEqProofs
end Go.Proofs.Ytbgifnlaaophcaa

/- Contracts: numbers' bits, told otherwise. No condition. -/
set_option linter.unusedSimpArgs false
set_option linter.unusedVariables false
set_option maxRecDepth 10000
namespace Go.Proofs.Ytbgifnlaaophcaa
open Go Go.Rw Go.Proofs
-- a goal is never to be run by the elaborator
attribute [local irreducible] awp aops aop aopsE aeff

theorem and_u64 (a b : Nat) (ha : a < 18446744073709551616) (hb : b < 18446744073709551616) : bitOp .and .u64 (a : Int) (b : Int) = ((a &&& b : Nat) : Int) := by
  have h1 : bitOp .and .u64 (a : Int) (b : Int) = IntKind.u64.wrap ((BitVec.ofInt 64 (a : Int) &&& BitVec.ofInt 64 (b : Int)).toNat : Int) := rfl
  have h2 : a &&& b ≤ a := Nat.and_le_left
  rw [h1, BitVec.toNat_and]
  have e1 : (BitVec.ofInt 64 (a : Int)).toNat = a := by simp; omega
  have e2 : (BitVec.ofInt 64 (b : Int)).toNat = b := by simp; omega
  rw [e1, e2]
  exact wu64 (by omega) (by omega)
theorem mask_u64 (a k b : Nat) (ha : a < 18446744073709551616) (hk : b = 2 ^ k - 1) (hb : b < 18446744073709551616) : bitOp .and .u64 (a : Int) (b : Int) = ((a % 2 ^ k : Nat) : Int) := by
  rw [and_u64 a b ha hb, hk, Nat.and_two_pow_sub_one_eq_mod]
theorem shr_u64 (a k : Nat) (hk : k ≤ 64) : Int.fdiv (a : Int) (2 ^ min (k : Int).toNat IntKind.u64.bits) = ((a / 2 ^ k : Nat) : Int) := by
  have h1 : min (k : Int).toNat IntKind.u64.bits = k := by simp [IntKind.bits]; omega
  rw [h1, Int.fdiv_eq_ediv_of_nonneg _ (by exact_mod_cast Nat.zero_le _)]
  norm_cast
theorem parts_spec (b : Nat) (h : b < 18446744073709551616) : ASpec Try.prog 130 [.v (.int .u64 b)] (· = .tup [.v (.int .u64 (b / 2 ^ 63 : Nat)), .v (.int .u64 (b / 2 ^ 52 % 2 ^ 11 : Nat)), .v (.int .u64 (b % 2 ^ 52 : Nat))]) := by
  refine ASpec.of_awp Try.func130 (by kernel_rfl) rfl (by rw [Try.results130]) Try.ntmps130 ?_
  have s1 : Int.fdiv (b : Int) (2 ^ min 63 IntKind.u64.bits) = ((b / 2 ^ 63 : Nat) : Int) := shr_u64 b 63 (by omega)
  have s2 : Int.fdiv (b : Int) (2 ^ min 52 IntKind.u64.bits) = ((b / 2 ^ 52 : Nat) : Int) := shr_u64 b 52 (by omega)
  have s3 : bitOp .and .u64 ((b / 2 ^ 52 : Nat) : Int) 2047 = ((b / 2 ^ 52 % 2 ^ 11 : Nat) : Int) := mask_u64 (b / 2 ^ 52) 11 2047 (by omega) (by decide) (by omega)
  have s4 : bitOp .and .u64 (b : Int) 4503599627370495 = ((b % 2 ^ 52 : Nat) : Int) := mask_u64 b 52 4503599627370495 h (by decide) (by omega)
  simp -implicitDefEqProofs [aNum_shr, s4]
  refine ⟨?_, ?_⟩
  · rw [s1]; omega
  · rw [s2, s3]; omega
theorem nan_parts (b : Nat) : (b / 2 ^ 52 % 2 ^ 11 = 2047 ∧ b % 2 ^ 52 ≠ 0) ↔ nanB b = true := by
  unfold nanB
  rw [decide_eq_true_iff]
  omega
theorem clean_spec (b : Nat) (h : b < 18446744073709551616) : ASpec Try.prog 122 [.v (.int .u64 b)] (· = .v (.int .u64 (bitsF b))) := by
  refine ASpec.of_awp Try.func122 (by kernel_rfl) rfl (by rw [Try.results122]) Try.ntmps122 ?_
  simp -implicitDefEqProofs
  refine CallK.eq (parts_spec b h) ?_
  have hn := nan_parts b
  generalize hE : b / 2 ^ 52 % 2 ^ 11 = E at hn
  generalize hF : b % 2 ^ 52 = F at hn
  by_cases hE7 : (E : Int) = 2047
  · by_cases hF0 : (F : Int) = 0
    · have : nanB b = false := by
        cases hb : nanB b
        · rfl
        · have := hn.2 hb; omega
      simp -implicitDefEqProofs [hE7, hF0, bitsF, cleanB, this]
    · have : nanB b = true := hn.1 ⟨by omega, by omega⟩
      have hF0' : ¬ F = 0 := by omega
      simp -implicitDefEqProofs [hE7, hF0, hF0', bitsF, cleanB, this]
  · have : nanB b = false := by
      cases hb : nanB b
      · rfl
      · have := hn.2 hb; omega
    simp -implicitDefEqProofs [hE7, bitsF, cleanB, this]
theorem bits1_spec (b : Nat) (h : b < 18446744073709551616) : ASpec Try.prog 84 [eF b] (· = .v (.int .u64 (bitsF b))) := by
  refine ASpec.of_awp Try.func84 (by kernel_rfl) rfl (by rw [Try.results84]) Try.ntmps84 ?_
  simp -implicitDefEqProofs
  refine CallK.eq (f64bits_spec b) ?_
  simp -implicitDefEqProofs
  refine CallK.eq (clean_spec b h) ?_
  simp -implicitDefEqProofs
end Go.Proofs.Ytbgifnlaaophcaa

/- Contracts: forms of numbers, told otherwise. No condition. -/
set_option linter.unusedSimpArgs false
set_option linter.unusedVariables false
set_option maxRecDepth 10000
namespace Go.Proofs.Ytbgifnlaaophcaa
open Go Go.Rw Go.Proofs
-- a goal is never to be run by the elaborator
attribute [local irreducible] awp aops aop aopsE aeff

theorem sizeN_zero : sizeN 0 = 0 := by decide
theorem sizeN_step {n : Nat} (h0 : 0 < n) (h : n < 18446744073709551616) : sizeN n = sizeN (n / 256) + 1 := by
  by_cases h1 : 256 ≤ n
  · have := Lib.bitLen_shift8 n h1 h
    unfold sizeN
    omega
  · have e : n / 256 = 0 := by omega
    rw [e, sizeN_zero]
    have a := sizeN_pos h0 h
    have b := sizeN_small (n := n) (k := 1) (by omega) (by omega)
    omega
theorem dig_snoc : ∀ (k n : Nat), dig (k + 1) n = dig k (n / 256) ++ [UInt8.ofNat n]
  | 0, n => by simp [dig]
  | k + 1, n => by
    rw [dig, dig_snoc k n, dig, Nat.div_div_eq_div_mul, Nat.pow_succ, Nat.mul_comm]
    rfl
theorem eB_cons256 (n : Nat) (l : List UInt8) : [AV.v (.int .u8 ((n : Int) % 256))] :: eB l = eB (UInt8.ofNat n :: l) := by
  simp [eB, encB]
def FmI (n0 : Nat) (t : Nat → AV) (_ : Nat → Option (List AV)) : Prop := ∃ (n : Nat) (out : List UInt8) (tag : Tag), t 0 = .v (.int .u64 n) ∧ t 3 = .sl tag (eB out) ∧ n ≤ n0 ∧ dig (sizeN n) n ++ out = dig (sizeN n0) n0
theorem form2_spec (n : Nat) (h : n < 18446744073709551616) : ASpec Try.prog 116 [.v (.int .u64 n)] (Own 5 1 (eB (formF n))) := by
  refine ASpec.of_awp Try.func116 (by kernel_rfl) rfl (by rw [Try.results116]) Try.ntmps116 ?_
  simp -implicitDefEqProofs
  refine loopK.intro (FmI n) (fun t => natOf (t 0)) ?_ ?_
  · exact ⟨n, [], _, by simp, by simp; rfl, by omega, by simp⟩
  rintro t hh ⟨x, out, tag, g0, g3, hx, he⟩
  simp -implicitDefEqProofs [g0]
  have hl := congrArg List.length he
  simp only [List.length_append, dig_length] at hl
  have hs := sizeN_le h
  refine branch_dec (fun hlt => ?_) (fun hlt => ?_)
  · have hlt : 0 < x := by omega
    have hst := sizeN_step hlt (by omega)
    have hw : IntKind.u8.wrap ((x : Int) % 256) = (x : Int) % 256 := wu8 (by omega) (by omega)
    have hw2 : IntKind.u64.wrap ((x : Int) / 256) = ((x / 256 : Nat) : Int) := by rw [wu64 (by omega) (by omega)]; omega
    simp -implicitDefEqProofs [g0, g3, hw]
    rw [eB_cons256, hw2]
    refine ⟨by omega, ⟨x / 256, UInt8.ofNat x :: out, _, by simp, by simp; rfl, by omega, ?_⟩, by omega⟩
    rw [← he, hst, dig_snoc]
    simp
  · have hx0 : x = 0 := by omega
    subst hx0
    have hw : IntKind.u8.wrap (out.length : Int) = (out.length : Int) % 256 := by rw [wu8 (by omega) (by omega)]; rw [sizeN_zero] at hl; omega
    simp -implicitDefEqProofs [g0, g3, hw]
    intro _
    rw [eB_cons256]
    rw [sizeN_zero] at hl he
    refine ⟨by omega, appTag Tag.full 5 1 (eB out), by simp, ?_⟩
    rw [formF, ← he, ← hl]; simp [dig]

def Pt2I (b : List UInt8) (ns : List Nat) (t : Nat → AV) (_ : Nat → Option (List AV)) : Prop := ∃ (k : Nat) (out : List UInt8) (tag : Tag), t 11 = .sl .no (eU ns) ∧ t 12 = .v (.int .i64 ns.length) ∧ t 13 = .v (.int .i64 k) ∧
  t 5 = .sl tag (eB out) ∧ appOK tag 5 1 ∧ k ≤ ns.length ∧ out ++ forms (ns.drop k) = b ++ forms ns ∧ out.length ≤ b.length + 9 * k
theorem put2_spec (b : List UInt8) (ns : List Nat) (hns : ∀ n ∈ ns, n < 18446744073709551616) (hl : b.length + 9 * ns.length ≤ 140737488355328) :
    ASpec Try.prog 86 [.sl .no (eB b), .sl .no (eU ns)] (Own 5 1 (eB (b ++ forms ns))) := by
  refine ASpec.of_awp Try.func86 (by kernel_rfl) rfl (by rw [Try.results86]) Try.ntmps86 ?_
  simp -implicitDefEqProofs
  refine ⟨by omega, fun hlen => ?_⟩
  refine loopK.intro (Pt2I b ns) (fun t => ns.length - natOf (t 13)) ?_ ?_
  · exact ⟨0, b, _, by simp, by simp, by simp, by simp; rfl, by simp, by omega, by simp, by omega⟩
  rintro t hh ⟨k, out, tag, h11, h12, h13, h5, ht, hk, ho, hol⟩
  simp -implicitDefEqProofs [h12, h13]
  refine branch_dec (fun hlt => ?_) (fun hlt => ?_)
  · have hlt : k < ns.length := by omega
    have hx : ns[k]? = some ns[k] := by simp [hlt]
    have hx64 := hns ns[k] (List.getElem_mem hlt)
    have hsz := sizeN_le hx64
    have hj1 : IntKind.i64.wrap ((k : Int) + 1) = (k : Int) + 1 := w64 (by omega) (by omega)
    have hf : (formF ns[k]).length ≤ 9 := by rw [formF_length]; omega
    simp -implicitDefEqProofs [h11, h12, h13, hx, hlt, encU, h5, ht]
    refine CallK.of (form2_spec _ hx64) ?_
    rintro _ ⟨tag2, ht2, rfl⟩
    simp -implicitDefEqProofs [h5, ht, h13, hj1]
    refine ⟨by omega, ⟨k + 1, out ++ formF ns[k], appTag tag 5 1 (eB (formF ns[k])), by simp [h11], by simp [h12], by simp, by simp, by simp [ht], by omega, ?_, ?_⟩, by omega⟩
    · rw [← ho, List.drop_eq_getElem_cons hlt, forms_cons]; simp
    · simp; omega
  · have hk' : k = ns.length := by omega
    subst hk'
    simp -implicitDefEqProofs [h5]
    simp [forms] at ho
    rw [ho]
    exact ⟨tag, ht, rfl⟩
end Go.Proofs.Ytbgifnlaaophcaa

/- Contracts: numbers out of bytes, told otherwise. No condition. -/
set_option linter.unusedSimpArgs false
set_option linter.unusedVariables false
set_option maxRecDepth 10000
namespace Go.Proofs.Ytbgifnlaaophcaa
open Go Go.Rw Go.Proofs
-- a goal is never to be run by the elaborator
attribute [local irreducible] awp aops aop aopsE aeff

theorem valN_le (l : List UInt8) (k : Nat) (h : l.length ≤ k) (hk : 8 * k ≤ 64) : sizeN (valN l) ≤ k := by
  refine sizeN_small hk (Nat.lt_of_lt_of_le (valN_lt l) (Nat.pow_le_pow_right (by omega) h))
def Gt2I (b seg : List UInt8) (t : Nat → AV) (_ : Nat → Option (List AV)) : Prop := ∃ j : Nat, t 0 = .sl .no (eB b) ∧ t 6 = .v (.int .i64 ((j : Int) + 1)) ∧ t 5 = .v (.int .u64 (valN (seg.take j))) ∧ j ≤ seg.length
theorem get2_spec (b : List UInt8) (hl : b.length ≤ 140737488355328) : ASpec Try.prog 68 [.sl .no (eB b)] (· = getA (getF b)) := by
  refine ASpec.of_awp Try.func68 (by kernel_rfl) rfl (by rw [Try.results68]) Try.ntmps68 ?_
  cases b with
  | nil =>
    simp -implicitDefEqProofs [getA, getF]
  | cons x r =>
    have hx := x.toNat_lt
    have hc : IntKind.i64.wrap (x.toNat : Int) = (x.toNat : Int) := w64 (by omega) (by omega)
    simp only [List.length_cons] at hl
    have hr : IntKind.i64.wrap (r.length : Int) = (r.length : Int) := w64 (by omega) (by omega)
    have hr2 : IntKind.i64.wrap ((r.length : Int) + 1 - 1) = (r.length : Int) := by rw [w64 (by omega) (by omega)]; omega
    have hz : ¬ ((r.length : Int) + 1 = 0) := by omega
    by_cases h1 : 8 < x.toNat
    · have hg : getF (x :: r) = none := by simp only [getF]; rw [if_pos (.inl (by omega))]
      have h1' : (8 : Int) < x.toNat := by omega
      simp -implicitDefEqProofs [hz, encB, hg, getA, h1']
    have h1' : ¬ (8 : Int) < x.toNat := by omega
    by_cases h2 : r.length < x.toNat
    · have hg : getF (x :: r) = none := by simp only [getF]; rw [if_pos (.inr (by omega))]
      have h2' : (r.length : Int) < x.toNat := by omega
      simp -implicitDefEqProofs [hz, encB, hg, getA, h1', hc, hr, hr2, h2']
    have h2' : ¬ (r.length : Int) < x.toNat := by omega
    obtain ⟨seg, hs⟩ : ∃ seg, r.take x.toNat = seg := ⟨_, rfl⟩
    have hsl : seg.length = x.toNat := by rw [← hs]; simp; omega
    have hge : getF (x :: r) = if sizeN (valN seg) = x.toNat then some (valN seg, r.drop x.toNat) else none := by
      simp only [getF]
      rw [if_neg (by omega), hs]
    have h64 : valN seg < 18446744073709551616 := by
      have g1 := valN_lt seg
      have g2 : (256 : Nat) ^ seg.length ≤ 256 ^ 8 := Nat.pow_le_pow_right (by omega) (by omega)
      have g3 : (256 : Nat) ^ 8 = 18446744073709551616 := by decide
      omega
    have hsz := valN_le seg x.toNat (by omega) (by omega)
    simp -implicitDefEqProofs [hz, encB, h1', hc, hr, hr2, h2']
    intro _
    refine loopK.intro (Gt2I (x :: r) seg) (fun t => x.toNat + 1 - natOf (t 6)) ?_ ?_
    · exact ⟨0, by simp, by simp, by simp [valN], by omega⟩
    rintro t hh ⟨j, g0, g6, g5, hj⟩
    simp -implicitDefEqProofs [g0, g6, g5, hc, encB]
    refine branch_dec (fun hlt => ?_) (fun hlt => ?_)
    · have hlt : j < seg.length := by omega
      have hy : seg[j]? = some seg[j] := by simp [hlt]
      have hy2 : r[j]? = some seg[j] := by rw [← hy, ← hs, List.getElem?_take, if_pos (by omega)]
      have hsn : valN (seg.take (j + 1)) = valN (seg.take j) * 256 + seg[j].toNat := by
        rw [List.take_add_one, hy]; exact valN_snoc _ _
      have hb : valN (seg.take j) * 256 + seg[j].toNat < 18446744073709551616 := by
        have g1 := valN_lt (seg.take (j + 1))
        have g2 : (256 : Nat) ^ (seg.take (j + 1)).length ≤ 256 ^ 8 := Nat.pow_le_pow_right (by omega) (by simp; omega)
        have g3 : (256 : Nat) ^ 8 = 18446744073709551616 := by decide
        omega
      have w1 : IntKind.u64.wrap ((valN (seg.take j) : Int) * 256) = (valN (seg.take j) : Int) * 256 := wu64 (by omega) (by omega)
      have w2 : IntKind.u64.wrap (seg[j].toNat : Int) = (seg[j].toNat : Int) := wu64 (by omega) (by omega)
      have w3 : IntKind.u64.wrap ((valN (seg.take j) : Int) * 256 + (seg[j].toNat : Int)) = (valN (seg.take j) : Int) * 256 + (seg[j].toNat : Int) := wu64 (by omega) (by omega)
      have w4 : IntKind.i64.wrap ((j : Int) + 1 + 1) = (j : Int) + 1 + 1 := w64 (by omega) (by omega)
      have e1 : (0 : Int) ≤ (j : Int) + 1 := by omega
      have e2 : ((j : Int) + 1).toNat = j + 1 := by omega
      simp -implicitDefEqProofs [g0, g6, g5, encB, hy2, w1, w2, w3, w4, e1, e2]
      exact ⟨⟨j + 1, by simp [g0], by simp, by simp [hsn], by omega⟩, by omega⟩
    · have hj' : j = seg.length := by omega
      subst hj'
      rw [List.take_length] at g5
      simp -implicitDefEqProofs [g5]
      refine CallK.of (form2_spec _ h64) ?_
      rintro _ ⟨tag, _, rfl⟩
      simp -implicitDefEqProofs
      refine regionK.intro 8 follows_mixed (by kernel_rfl) ?_
      have e1 : sizeN (valN seg) ≤ r.length := by omega
      have e2 : ((r.length : Int) + 1 - (sizeN (valN seg) + 1 : Nat)).toNat = r.length - sizeN (valN seg) := by omega
      have hfl := formF_length (valN seg)
      have f1 : ((formF (valN seg)).length : Int) ≤ (r.length : Int) + 1 := by omega
      have hiff : formF (valN seg) = (x :: r).take (formF (valN seg)).length ↔ sizeN (valN seg) = x.toNat := by
        constructor
        · intro h
          have h0 := congrArg (fun l => l[0]?) h
          simp only [formF, List.length_cons, List.take_succ_cons, List.getElem?_cons_zero, Option.some.injEq] at h0
          rw [← h0, UInt8.toNat_ofNat', Nat.mod_eq_of_lt (by omega)]
        · intro h
          rw [if_pos h] at hge
          have := (getF_some hge).1
          conv => rhs; rw [this]
          simp
      by_cases hq : sizeN (valN seg) = x.toNat
      · have hq2 := hiff.2 hq
        rw [if_pos hq] at hge
        have hd : (x :: r).drop (formF (valN seg)).length = r.drop x.toNat := by rw [hfl, hq]; rfl
        have htk : (r.drop x.toNat).take (r.length - x.toNat) = r.drop x.toNat := List.take_of_length_le (by simp)
        simp -implicitDefEqProofs [g0, g5, f1, ← hq2]
        intro _
        have e3 : r.length + 1 - (formF (valN seg)).length = r.length - x.toNat := by omega
        rw [hge, hd, e3, htk]
        exact ⟨by omega, rfl⟩
      · have hq2 : ¬ formF (valN seg) = (x :: r).take (formF (valN seg)).length := fun h => hq (hiff.1 h)
        rw [if_neg hq] at hge
        simp -implicitDefEqProofs [g0, f1, hq2, hge, getA]
end Go.Proofs.Ytbgifnlaaophcaa

/- Contracts: sums and frames, told otherwise. No condition. -/
set_option linter.unusedSimpArgs false
set_option linter.unusedVariables false
set_option maxRecDepth 10000
namespace Go.Proofs.Ytbgifnlaaophcaa
open Go Go.Rw Go.Proofs
-- a goal is never to be run by the elaborator
attribute [local irreducible] awp aops aop aopsE aeff

theorem crcStep_eq (c : BitVec 32) (b : Bool) : crcStep c b = (c >>> 1) ^^^ poly (c.getLsbD 0 ^^ b) := by
  rw [crcStep, crcBit_xor, crcBit_one, crcBit_eq, poly_xor, BitVec.xor_assoc]
theorem and1_bit (c : BitVec 32) : c &&& 1#32 = bit1 (c.getLsbD 0) := by
  apply BitVec.eq_of_getLsbD_eq
  intro i hi
  rw [BitVec.getLsbD_and]
  by_cases h0 : i = 0
  · subst h0
    cases c.getLsbD 0 <;> decide
  · have : (1#32).getLsbD i = false := by rw [BitVec.getLsbD_one]; simp [h0]
    rw [this]
    cases c.getLsbD 0 <;> simp [bit1, this]
theorem bit1_xor (a b : Bool) : bit1 a ^^^ bit1 b = bit1 (a ^^ b) := by cases a <;> cases b <;> decide
theorem bit1_one (a : Bool) : n32 (bit1 a) = 1 ↔ a = true := by cases a <;> decide
theorem byte_bit (x r : Nat) (hx : x < 256) : bitOp .and .u32 (IntKind.u32.wrap ((x : Int) / 2 ^ r)) 1 = n32 (bit1 (x.testBit r)) := by
  have hd : x / 2 ^ r ≤ x := Nat.div_le_self _ _
  have he : (x : Int) / 2 ^ r = ((x / 2 ^ r : Nat) : Int) := by norm_cast
  rw [he, w32_n _ (by omega), bw_and1, and1_bit]
  congr 2
  rw [BitVec.getLsbD_ofNat, Nat.testBit_div_two_pow]
  simp
theorem sub_not (c : BitVec 32) : IntKind.u32.wrap (4294967295 - n32 c) = n32 (~~~c) := by
  have h := c.isLt
  have e : (~~~c).toNat = 4294967295 - c.toNat := by rw [BitVec.toNat_not]
  unfold n32
  rw [e, wu32 (by omega) (by omega)]
  omega
def Of2I (l : List UInt8) (t : Nat → AV) (_ : Nat → Option (List AV)) : Prop := ∃ (k : Nat) (c : BitVec 32), t 0 = .sl .no (eB l) ∧ t 4 = .v (.int .i64 k) ∧ t 3 = .v (.int .u32 (n32 c)) ∧ k ≤ 8 * l.length ∧ crcS c ((toBits l).drop k) = crcL (BitVec.allOnes 32) l
theorem of3_spec (l : List UInt8) (hl : l.length ≤ 140737488355328) : ASpec Try.prog 123 [.sl .no (eB l)] (· = .v (.int .u32 (n32 (crcOf l)))) := by
  refine ASpec.of_awp Try.func123 (by kernel_rfl) rfl (by rw [Try.results123]) Try.ntmps123 ?_
  simp -implicitDefEqProofs
  refine loopK.intro (Of2I l) (fun t => 8 * l.length - natOf (t 4)) ?_ ?_
  · exact ⟨0, BitVec.allOnes 32, by simp, by simp, by simp; rfl, by omega, by rw [List.drop_zero, crcL_toBits]⟩
  rintro t hh ⟨k, c, g0, g4, g3, hk, hc⟩
  have w1 : IntKind.i64.wrap (8 * (l.length : Int)) = 8 * l.length := w64 (by omega) (by omega)
  simp -implicitDefEqProofs [g0, g4, w1]
  intro _
  refine branch_dec (fun hlt => ?_) (fun hlt => ?_)
  · have hlt : k < 8 * l.length := by omega
    obtain ⟨q, hq⟩ : ∃ q, k / 8 = q := ⟨_, rfl⟩
    obtain ⟨r, hr⟩ : ∃ r, k % 8 = r := ⟨_, rfl⟩
    have hq' : (k : Int) / 8 = (q : Int) := by omega
    have hr' : (k : Int) % 8 = (r : Int) := by omega
    have hx : l[q]? = some l[q] := by simp
    have hx8 := l[q].toNat_lt
    have w2 : IntKind.i64.wrap (q : Int) = q := w64 (by omega) (by omega)
    have w3 : IntKind.i64.wrap ((k : Int) + 1) = (k : Int) + 1 := w64 (by omega) (by omega)
    have hbit : (toBits l)[k]? = some (l[q].toNat.testBit r) := by rw [toBits_get, hq, hr, hx]; rfl
    have hk8 : k < (toBits l).length := by simpa using hlt
    have hdrop : (toBits l).drop k = l[q].toNat.testBit r :: (toBits l).drop (k + 1) := by
      rw [List.drop_eq_getElem_cons hk8]
      rw [List.getElem?_eq_getElem hk8] at hbit
      rw [Option.some.inj hbit]
    have hsh : Int.fdiv (l[q].toNat : Int) (2 ^ min r 8) = (l[q].toNat : Int) / 2 ^ r := by
      rw [Nat.min_eq_left (by omega)]
      exact Int.fdiv_eq_ediv_of_nonneg _ (Int.pow_nonneg (by omega))
    have hbb := byte_bit l[q].toNat r (by omega)
    generalize hB : l[q].toNat.testBit r = B at *
    rw [hdrop, crcS_cons, crcStep_eq] at hc
    have hbx : bitOp .xor .u32 (bitOp .and .u32 (n32 c) 1) (bitOp .and .u32 (IntKind.u32.wrap ((l[q].toNat : Int) / 2 ^ r)) 1) = n32 (bit1 (c.getLsbD 0 ^^ B)) := by
      rw [hbb, bw_and1, and1_bit, bw_xor, bit1_xor]
    have hp : bitOp .xor .u32 (n32 (c >>> 1)) 3988292384 = n32 ((c >>> 1) ^^^ 3988292384#32) := bw_xor _ 3988292384#32
    generalize c.getLsbD 0 = A at hc hbx
    cases hb : A ^^ B
    · have e1 : ¬ n32 (bit1 (A ^^ B)) = 1 := by rw [hb]; decide
      rw [hb] at hc
      simp -implicitDefEqProofs [g0, g4, g3, hq', hr', hx, encB, w2, w3, aNum_shr, hsh, hbx, e1, IntKind.bits, bw_shr1]
      refine ⟨⟨k + 1, c >>> 1, by simp [g0], by simp, by simp, by omega, ?_⟩, by omega⟩
      rw [← hc]; simp [poly]
    · have e1 : n32 (bit1 (A ^^ B)) = 1 := by rw [hb]; decide
      rw [hb] at hc
      simp -implicitDefEqProofs [g0, g4, g3, hq', hr', hx, encB, w2, w3, aNum_shr, hsh, hbx, e1, IntKind.bits, bw_shr1, hp]
      refine ⟨⟨k + 1, (c >>> 1) ^^^ 3988292384#32, by simp [g0], by simp, by simp, by omega, ?_⟩, by omega⟩
      rw [← hc]; simp [poly]
  · have hk' : k = 8 * l.length := by omega
    subst hk'
    rw [List.drop_of_length_le (by simp), crcS_nil] at hc
    simp -implicitDefEqProofs [g3]
    rw [sub_not, hc, crcOf]

theorem tail_rows (c : BitVec 32) : ([[AV.v (Value.int IntKind.u8 (IntKind.u8.wrap ((n32 c).tmod 256)))],
              [AV.v (Value.int IntKind.u8 (IntKind.u8.wrap ((IntKind.u32.wrap ((n32 c).tdiv 256)).tmod 256)))],
              [AV.v (Value.int IntKind.u8 (IntKind.u8.wrap ((IntKind.u32.wrap ((n32 c).tdiv 65536)).tmod 256)))],
              [AV.v (Value.int IntKind.u8 (IntKind.u8.wrap (IntKind.u32.wrap ((n32 c).tdiv 16777216))))]] : List (List AV)) = eB (tailF c) := by
  have hc := c.isLt
  obtain ⟨n, hn⟩ : ∃ n, c.toNat = n := ⟨_, rfl⟩
  have hn2 : n32 c = (n : Int) := by rw [← hn]; rfl
  rw [hn] at hc
  have hm : ∀ m : Nat, IntKind.u8.wrap ((m : Int) % 256) = ((UInt8.ofNat m).toNat : Int) := fun m => by
    rw [UInt8.toNat_ofNat', wu8 (by omega) (by omega)]; omega
  have d1 : IntKind.u32.wrap ((n : Int).tdiv 256) = ((n / 256 : Nat) : Int) := by rw [tdiv_pos (by omega), wu32 (by omega) (by omega)]; omega
  have d2 : IntKind.u32.wrap ((n : Int).tdiv 65536) = ((n / 65536 : Nat) : Int) := by rw [tdiv_pos (by omega), wu32 (by omega) (by omega)]; omega
  have d3 : IntKind.u32.wrap ((n : Int).tdiv 16777216) = ((n / 16777216 : Nat) : Int) := by rw [tdiv_pos (by omega), wu32 (by omega) (by omega)]; omega
  have d4 : IntKind.u8.wrap ((n / 16777216 : Nat) : Int) = ((UInt8.ofNat (n / 16777216)).toNat : Int) := by
    rw [UInt8.toNat_ofNat', wu8 (by omega) (by omega)]; omega
  rw [hn2, d1, d2, d3, d4, tmod_pos (by omega), tmod_pos (by omega), tmod_pos (by omega), hm, hm, hm, tailF, hn]
  rfl
theorem seal3_spec (l : List UInt8) (hl : l.length + 4 ≤ 140737488355328) : ASpec Try.prog 85 [.sl .no (eB l)] (Own 5 1 (eB (sealF l))) := by
  refine ASpec.of_awp Try.func85 (by kernel_rfl) rfl (by rw [Try.results85]) Try.ntmps85 ?_
  simp -implicitDefEqProofs
  refine CallK.eq (of3_spec l (by omega)) ?_
  simp -implicitDefEqProofs
  rw [tail_rows]
  refine ⟨by omega, by omega, appTag (appTag Tag.full 5 1 (eB l)) 5 1 (eB (tailF (crcOf l))), by simp, ?_⟩
  rw [sealF, eB_append]
theorem open3_spec (f : List UInt8) (hf : f.length ≤ 140737488355328) : ASpec Try.prog 67 [.sl .no (eB f)] (· = openA (openF f)) := by
  refine ASpec.of_awp Try.func67 (by kernel_rfl) rfl (by rw [Try.results67]) Try.ntmps67 ?_
  by_cases h4 : f.length < 4
  · have h4' : (f.length : Int) < 4 := by omega
    have ho : openF f = none := by rw [openF, if_pos h4]
    simp -implicitDefEqProofs [h4', ho, openA]
  have h4' : ¬ (f.length : Int) < 4 := by omega
  have w1 : IntKind.i64.wrap ((f.length : Int) - 4) = (f.length : Int) - 4 := w64 (by omega) (by omega)
  have e1 : ((f.length : Int) - 4).toNat = f.length - 4 := by omega
  have e2 : (f.length : Int) - 4 ≤ f.length := by omega
  have e3 : (0 : Int) ≤ (f.length : Int) - 4 := by omega
  have e4 : (4 : Int) ≤ f.length := by omega
  obtain ⟨body, hbody⟩ : ∃ body, f.take (f.length - 4) = body := ⟨_, rfl⟩
  have hbl : body.length + 4 = f.length := by rw [← hbody]; simp; omega
  have ho : openF f = if sealF body = f then some body else none := by
    have hf2 : f = body ++ f.drop (f.length - 4) := by rw [← hbody, List.take_append_drop]
    have hiff : sealF body = f ↔ tailF (crcOf body) = f.drop (f.length - 4) := by
      constructor
      · intro h
        rw [sealF] at h
        conv at h => rhs; rw [hf2]
        exact List.append_cancel_left h
      · intro h
        conv => rhs; rw [hf2]
        rw [sealF, h]
    rw [openF, if_neg h4, hbody]
    by_cases hq : sealF body = f
    · rw [if_pos (hiff.1 hq), if_pos hq]
    · rw [if_neg (fun h => hq (hiff.2 h)), if_neg hq]
  simp -implicitDefEqProofs [h4', w1, e1, e2, e3, e4, hbody]
  intro _
  refine ⟨by omega, ?_⟩
  refine regionK.intro 6 follows_mixed (by kernel_rfl) ?_
  simp -implicitDefEqProofs
  refine CallQ.of (seal3_spec body (by omega)) (x := .sl .no (eB (sealF body))) (by rintro _ ⟨tag, _, rfl⟩; rfl) ?_
  by_cases hq : sealF body = f
  · rw [if_pos hq] at ho
    simp -implicitDefEqProofs [hq, ho, openA]
  · rw [if_neg hq] at ho
    simp -implicitDefEqProofs [hq, ho, openA]
end Go.Proofs.Ytbgifnlaaophcaa

/- Contracts: changes, tags and lists that can be, told otherwise. No condition. -/
set_option linter.unusedSimpArgs false
set_option linter.unusedVariables false
set_option maxRecDepth 10000
namespace Go.Proofs.Ytbgifnlaaophcaa
open Go Go.Rw Go.Proofs
-- a goal is never to be run by the elaborator
attribute [local irreducible] awp aops aop aopsE aeff

theorem right4_spec (v : PView) : ASpec Try.prog 87 [.agg (eV v)] (· = .v (.bool (rightV v))) := by
  refine ASpec.of_awp Try.func87 (by kernel_rfl) rfl (by rw [Try.results87]) Try.ntmps87 ?_
  simp -implicitDefEqProofs [eV]
  refine allocK.intro (fun b hb => ?_)
  by_cases h1 : 0 ≤ v.add
  · by_cases h2 : v.add ≤ 63
    · by_cases h3 : 0 ≤ v.del
      · by_cases h4 : v.del ≤ 63
        · simp -implicitDefEqProofs [h1, h2, h3, h4, rightV]
          omega
        · simp -implicitDefEqProofs [h1, h2, h3, h4, rightV]
          omega
      · simp -implicitDefEqProofs [h1, h2, h3, rightV]
    · simp -implicitDefEqProofs [h1, h2, rightV]
      omega
  · simp -implicitDefEqProofs [h1, rightV]
theorem right6_spec (t : PTag) : ASpec Try.prog 124 [.agg (eT t)] (· = .v (.bool (rightT t))) := by
  refine ASpec.of_awp Try.func124 (by kernel_rfl) rfl (by rw [Try.results124]) Try.ntmps124 ?_
  simp -implicitDefEqProofs [eT]
  refine allocK.intro (fun b hb => ?_)
  by_cases h0 : t.num = 0
  · by_cases h1 : t.node = 0
    · simp -implicitDefEqProofs [h0, h1, rightT]
    · simp -implicitDefEqProofs [h0, h1, rightT]
  · by_cases h1 : 0 < t.num
    · by_cases h2 : t.num ≤ 1000000
      · by_cases h3 : 0 ≤ t.node
        · by_cases h4 : t.node ≤ 5
          · simp -implicitDefEqProofs [h0, h1, h2, h3, h4, rightT]
            omega
          · simp -implicitDefEqProofs [h0, h1, h2, h3, h4, rightT]
            omega
        · simp -implicitDefEqProofs [h0, h1, h2, h3, rightT]
      · simp -implicitDefEqProofs [h0, h1, h2, rightT]
    · have : ¬ 0 ≤ t.num := by omega
      simp -implicitDefEqProofs [h0, h1, this, rightT]
theorem name4_spec (v : PView) (h : rightV v = true) : ASpec Try.prog 83 [.agg (eV v)] (· = eI (nameV v)) := by
  refine ASpec.of_awp Try.func83 (by kernel_rfl) rfl (by rw [Try.results83]) Try.ntmps83 ?_
  simp -implicitDefEqProofs [eV]
  refine allocK.intro (fun b hb => ?_)
  simp [rightV] at h
  have e1 : IntKind.i64.wrap (64 * v.add) = 64 * v.add := w64 (by omega) (by omega)
  have e2 : IntKind.i64.wrap (64 * v.add + v.del) = 64 * v.add + v.del := w64 (by omega) (by omega)
  simp -implicitDefEqProofs [e1, e2, nameV]
  omega
def Nm4I (n : Int) (b : Nat) (t : Nat → AV) (h : Nat → Option (List AV)) : Prop := ∃ k : Nat, t 0 = eI n ∧ t 2 = .ptr b 0 ∧ t 4 = eI k ∧ h b = some (eV ⟨0, 0⟩) ∧ k ≤ 64 ∧ ¬ (0 ≤ n ∧ n < 64 * (k : Int))
theorem named4_spec (n : Int) : ASpec Try.prog 70 [eI n] (· = namedA n) := by
  refine ASpec.of_awp Try.func70 (by kernel_rfl) rfl (by rw [Try.results70]) Try.ntmps70 ?_
  simp -implicitDefEqProofs
  refine allocK.intro (fun b hb => ?_)
  simp -implicitDefEqProofs
  refine loopK.intro (Nm4I n b) (fun t => 64 - natOf (t 4)) ?_ ?_
  · exact ⟨0, by simp, by simp, by simp, by simp [eV], by omega, by omega⟩
  rintro t hh ⟨k, g0, g2, g4, gb, hk, hn⟩
  simp -implicitDefEqProofs [g4]
  refine branch_dec (fun hlt => ?_) (fun hlt => ?_)
  · have hlt : k < 64 := by omega
    have w1 : IntKind.i64.wrap (64 * (k : Int)) = 64 * k := w64 (by omega) (by omega)
    have w2 : IntKind.i64.wrap (64 * (k : Int) + 63) = 64 * k + 63 := w64 (by omega) (by omega)
    have w3 : IntKind.i64.wrap ((k : Int) + 1) = (k : Int) + 1 := w64 (by omega) (by omega)
    by_cases h1 : 64 * (k : Int) ≤ n
    · by_cases h2 : n ≤ 64 * (k : Int) + 63
      · have w4 : IntKind.i64.wrap (n - 64 * (k : Int)) = n - 64 * (k : Int) := w64 (by omega) (by omega)
        have h3 : 0 ≤ n ∧ n < 4096 := by omega
        have e1 : n / 64 = k := by omega
        have e2 : n % 64 = n - 64 * (k : Int) := by omega
        simp -implicitDefEqProofs [g0, g2, g4, gb, w1, w2, h1, h2, w4, namedA, h3, e1, e2, eV]
      · simp -implicitDefEqProofs [g0, g2, g4, gb, w1, w2, w3, h1, h2]
        exact ⟨⟨k + 1, by simp [g0], by simp [g2], by simp, by simp [gb], by omega, by omega⟩, by omega⟩
    · simp -implicitDefEqProofs [g0, g2, g4, gb, w1, w2, w3, h1]
      exact ⟨⟨k + 1, by simp [g0], by simp [g2], by simp, by simp [gb], by omega, by omega⟩, by omega⟩
  · have hk' : k = 64 := by omega
    subst hk'
    have h3 : ¬ (0 ≤ n ∧ n < 4096) := by omega
    simp -implicitDefEqProofs [g2, gb, namedA, h3, eV]
end Go.Proofs.Ytbgifnlaaophcaa

/- Contracts: lists of cells and entries, told otherwise. No condition. -/
set_option linter.unusedSimpArgs false
set_option linter.unusedVariables false
set_option maxRecDepth 10000
namespace Go.Proofs.Ytbgifnlaaophcaa
open Go Go.Rw Go.Proofs
-- a goal is never to be run by the elaborator
attribute [local irreducible] awp aops aop aopsE aeff

def Sm10I (a b : List PCell) (t : Nat → AV) (_ : Nat → Option (List AV)) : Prop := ∃ k : Nat, t 0 = .sl .no (eCs a) ∧ t 1 = .sl .no (eCs b) ∧ t 12 = .v (.int .i64 a.length) ∧ t 13 = .v (.int .i64 k) ∧ k ≤ a.length ∧ a.take k = b.take k
theorem same10_spec (a b : List PCell) : ASpec Try.prog 72 [.sl .no (eCs a), .sl .no (eCs b)] (· = .v (.bool (decide (a = b)))) := by
  refine ASpec.of_awp Try.func72 (by kernel_rfl) rfl (by rw [Try.results72]) Try.ntmps72 ?_
  simp -implicitDefEqProofs
  intro h1 h2
  by_cases hl : a.length = b.length
  · simp -implicitDefEqProofs [hl]
    intro _
    refine loopK.intro (Sm10I a b) (fun t => a.length - natOf (t 13)) ?_ ?_
    · exact ⟨0, by simp, by simp, by simp [hl], by simp, by omega, by simp⟩
    rintro t hh ⟨k, g0, g1, g12, g13, hk, he⟩
    simp -implicitDefEqProofs [g12, g13]
    refine branch_dec (fun hlt => ?_) (fun hlt => ?_)
    · have hlt : k < a.length := by omega
      have hlt2 : k < b.length := by omega
      obtain ⟨x, hx⟩ : ∃ x, a[k]? = some x := ⟨a[k], by simp [hlt]⟩
      obtain ⟨y, hy⟩ : ∃ y, b[k]? = some y := ⟨b[k], by simp [hlt2]⟩
      have hj1 : IntKind.i64.wrap ((k : Int) + 1) = (k : Int) + 1 := w64 (by omega) (by omega)
      simp -implicitDefEqProofs [g13]
      refine regionK.intro 9 follows_mixed (by kernel_rfl) ?_
      simp -implicitDefEqProofs [g0, g1, g13, hx, hy, eC]
      refine branch_intro (fun hb2 => ?_) (fun hb2 => ?_)
      · have hne : x ≠ y := by rintro rfl; simp at hb2
        simp -implicitDefEqProofs
        rintro rfl
        rw [hx] at hy
        exact hne (Option.some.inj hy)
      · have hxy : x = y := by
          obtain ⟨n1, a1, d1⟩ := x
          obtain ⟨n2, a2, d2⟩ := y
          simp at hb2
          simp [hb2]
        simp -implicitDefEqProofs [g13, hj1]
        refine ⟨⟨k + 1, by simp [g0], by simp [g1], by simp [g12], by simp, by omega, ?_⟩, by omega⟩
        rw [List.take_add_one, List.take_add_one, he, hx, hy, hxy]
    · have hk' : k = a.length := by omega
      subst hk'
      simp -implicitDefEqProofs
      rw [List.take_length, hl, List.take_length] at he
      exact he
  · have hne : ¬ a = b := by rintro rfl; exact hl rfl
    have hl' : ¬ (a.length : Int) = b.length := by omega
    simp -implicitDefEqProofs [hl, hl', hne]

theorem alike7_spec (x y : PEntry) (hx : x.value < 18446744073709551616) (hy : y.value < 18446744073709551616) : ASpec Try.prog 117 [.agg (eE x), .agg (eE y)] (· = .v (.bool (sameE x y))) := by
  refine ASpec.of_awp Try.func117 (by kernel_rfl) rfl (by rw [Try.results117]) Try.ntmps117 ?_
  simp -implicitDefEqProofs [eE]
  refine allocK.intro (fun b hb => ?_)
  simp -implicitDefEqProofs
  refine allocK.intro (fun b2 hb2 => ?_)
  have hbb : ¬ b = b2 := by rintro rfl; simp at hb2
  have hbb' : ¬ b2 = b := fun h => hbb h.symm
  simp -implicitDefEqProofs [hbb, hbb']
  refine regionK.intro 21 follows_mixed (by kernel_rfl) ?_
  by_cases h1 : x.key = y.key
  · by_cases h2 : x.tag.num = y.tag.num
    · by_cases h3 : x.tag.node = y.tag.node
      · have ht : x.tag = y.tag := by
          obtain ⟨k1, ⟨n1, a1⟩, v1⟩ := x
          obtain ⟨k2, ⟨n2, a2⟩, v2⟩ := y
          simp at h2 h3
          simp [h2, h3]
        simp -implicitDefEqProofs [hbb, hbb', h1, h2, h3]
        refine CallQ.eq (bits1_spec _ hx) ?_
        simp -implicitDefEqProofs [hbb, hbb', h1, h2, h3]
        refine CallQ.eq (bits1_spec _ hy) ?_
        simp -implicitDefEqProofs [hbb, hbb', h1, h2, h3, sameE, ht]
        try omega
      · have ht : ¬ x.tag = y.tag := fun h => h3 (by rw [h])
        have e3 : (x.tag.node == y.tag.node) = false := by simpa using h3
        simp -implicitDefEqProofs [hbb, hbb', h1, h2, h3, e3, sameE, ht]
    · have ht : ¬ x.tag = y.tag := fun h => h2 (by rw [h])
      have e2 : (x.tag.num == y.tag.num) = false := by simpa using h2
      simp -implicitDefEqProofs [hbb, hbb', h1, h2, e2, sameE, ht]
  · simp -implicitDefEqProofs [hbb, hbb', h1, sameE]

def Sm7I (a b : List PEntry) (t : Nat → AV) (_ : Nat → Option (List AV)) : Prop := ∃ k : Nat, t 0 = .sl .no (eEs a) ∧ t 1 = .sl .no (eEs b) ∧ t 12 = .v (.int .i64 a.length) ∧ t 13 = .v (.int .i64 k) ∧ k ≤ a.length ∧ sameEs (a.drop k) (b.drop k) = sameEs a b
theorem same7_spec (a b : List PEntry) (ha : ∀ x ∈ a, x.value < 18446744073709551616) (hb : ∀ x ∈ b, x.value < 18446744073709551616) : ASpec Try.prog 73 [.sl .no (eEs a), .sl .no (eEs b)] (· = .v (.bool (sameEs a b))) := by
  refine ASpec.of_awp Try.func73 (by kernel_rfl) rfl (by rw [Try.results73]) Try.ntmps73 ?_
  simp -implicitDefEqProofs
  intro h1 h2
  by_cases hl : a.length = b.length
  · simp -implicitDefEqProofs [hl]
    intro _
    refine loopK.intro (Sm7I a b) (fun t => a.length - natOf (t 13)) ?_ ?_
    · exact ⟨0, by simp, by simp, by simp [hl], by simp, by omega, by simp⟩
    rintro t hh ⟨k, g0, g1, g12, g13, hk, he⟩
    simp -implicitDefEqProofs [g12, g13]
    refine branch_dec (fun hlt => ?_) (fun hlt => ?_)
    · have hlt : k < a.length := by omega
      have hlt2 : k < b.length := by omega
      obtain ⟨x, hx⟩ : ∃ x, a[k]? = some x := ⟨a[k], by simp [hlt]⟩
      obtain ⟨y, hy⟩ : ∃ y, b[k]? = some y := ⟨b[k], by simp [hlt2]⟩
      have hj1 : IntKind.i64.wrap ((k : Int) + 1) = (k : Int) + 1 := w64 (by omega) (by omega)
      have hdx : a.drop k = x :: a.drop (k + 1) := by
        rw [List.drop_eq_getElem_cons hlt]; rw [List.getElem?_eq_getElem hlt] at hx; rw [Option.some.inj hx]
      have hdy : b.drop k = y :: b.drop (k + 1) := by
        rw [List.drop_eq_getElem_cons hlt2]; rw [List.getElem?_eq_getElem hlt2] at hy; rw [Option.some.inj hy]
      rw [hdx, hdy, sameEs] at he
      simp -implicitDefEqProofs [g13]
      refine regionK.intro 10 follows_mixed (by kernel_rfl) ?_
      simp -implicitDefEqProofs [g0, g1, g13, hx, hy, eE]
      refine CallQ.with (alike7_spec x y (ha x (List.mem_of_getElem? hx)) (hb y (List.mem_of_getElem? hy))) (by simp [eE]) ?_
      cases hs : sameE x y
      · rw [hs, Bool.false_and] at he
        simp -implicitDefEqProofs [← he]
      · rw [hs, Bool.true_and] at he
        simp -implicitDefEqProofs [g13, hj1]
        exact ⟨⟨k + 1, by simp [g0], by simp [g1], by simp [g12], by simp, by omega, he⟩, by omega⟩
    · have hk' : k = a.length := by omega
      subst hk'
      rw [List.drop_length, hl, List.drop_length] at he
      simp -implicitDefEqProofs [← he, sameEs]
  · have hl' : ¬ (a.length : Int) = b.length := by omega
    have hs := sameEs_len hl
    simp -implicitDefEqProofs [hl, hl', hs]
end Go.Proofs.Ytbgifnlaaophcaa

/- Contracts: lists of cells and entries that can be, told otherwise. No condition. -/
set_option linter.unusedSimpArgs false
set_option linter.unusedVariables false
set_option maxRecDepth 10000
namespace Go.Proofs.Ytbgifnlaaophcaa
open Go Go.Rw Go.Proofs
-- a goal is never to be run by the elaborator
attribute [local irreducible] awp aops aop aopsE aeff

theorem popN_pos : ∀ (k n : Nat), n < 2 ^ k → popN k n = 0 → n = 0
  | 0, n, h, _ => by simp at h; exact h
  | k + 1, n, h, h0 => by
    simp only [popN] at h0
    have h1 := popN_pos k (n / 2) (by rw [Nat.pow_succ] at h; omega) (by omega)
    omega
theorem popN_zero : ∀ k : Nat, popN k 0 = 0
  | 0 => rfl
  | k + 1 => by simp [popN, popN_zero k]
theorem sizeV_zero {v : PView} (h : rightV v = true) : sizeV v = 0 ↔ v.add = 0 ∧ v.del = 0 := by
  simp [rightV] at h
  have e : sizeV v = (popN 64 v.add.toNat : Int) + popN 64 v.del.toNat := by unfold sizeV; rfl
  rw [e]
  constructor
  · intro h0
    have h1 := popN_pos 64 v.add.toNat (by omega) (by omega)
    have h2 := popN_pos 64 v.del.toNat (by omega) (by omega)
    omega
  · rintro ⟨h1, h2⟩
    rw [h1, h2]
    simp [popN_zero]

def Ck10I (l : List PCell) (t : Nat → AV) (_ : Nat → Option (List AV)) : Prop := ∃ (k : Nat) (last : Int), t 0 = .sl .no (eCs l) ∧ t 5 = .sl .no (eCs l) ∧ t 6 = eI l.length ∧ t 7 = eI k ∧ k ≤ l.length ∧ checkC last (l.drop k) = checkC (-1) l ∧ -1 ≤ last ∧ (k = 0 → last = -1) ∧ (0 < k → ∃ c, l[k - 1]? = some c ∧ c.node = last)
theorem check10_spec (l : List PCell) : ASpec Try.prog 88 [.sl .no (eCs l)] (· = eI (if checkC (-1) l = true then 0 else 101)) := by
  refine ASpec.of_awp Try.func88 (by kernel_rfl) rfl (by rw [Try.results88]) Try.ntmps88 ?_
  simp -implicitDefEqProofs
  intro hlen
  refine loopK.intro (Ck10I l) (fun t => l.length - natOf (t 7)) ?_ ?_
  · exact ⟨0, -1, by simp, by simp, by simp, by simp, by omega, by simp, by omega, fun _ => rfl, fun h => absurd h (by omega)⟩
  rintro t hh ⟨k, last, g0, g5, g6, g7, hk, hc, hl1, hl0, hlp⟩
  simp -implicitDefEqProofs [g6, g7]
  refine branch_dec (fun hlt => ?_) (fun hlt => ?_)
  · have hlt : k < l.length := by omega
    obtain ⟨c, hx⟩ : ∃ c, l[k]? = some c := ⟨l[k], by simp [hlt]⟩
    have hd : l.drop k = c :: l.drop (k + 1) := by
      rw [List.drop_eq_getElem_cons hlt]
      rw [List.getElem?_eq_getElem hlt] at hx
      injection hx with hx
      rw [hx]
    rw [hd, checkC] at hc
    have hj1 : IntKind.i64.wrap ((k : Int) + 1) = (k : Int) + 1 := w64 (by omega) (by omega)
    have bad : okC last c = false → checkC (-1) l = false := fun h => by rw [← hc, h]; rfl
    have b1 := fun h => bad (okC_1 last c h)
    have b2 := fun h => bad (okC_2 last c h)
    have b3 := fun h => bad (okC_3 last c h)
    have b4 := fun h => bad (okC_4 last c h)
    simp -implicitDefEqProofs [g5, g6, g7, hx, eC]
    refine allocK.intro (fun b hb => ?_)
    simp -implicitDefEqProofs [g5, g7, hx, eC]
    refine regionK.intro 35 follows_mixed (by kernel_rfl) ?_
    by_cases h1 : c.node < 0
    · simp -implicitDefEqProofs [h1, b1 (by omega)]
    by_cases h2 : 5 < c.node
    · simp -implicitDefEqProofs [h1, h2, b2 (by omega)]
    simp -implicitDefEqProofs [h1, h2]
    refine CallQ.with (right4_spec c.change) (by simp [eV]) ?_
    cases h3 : rightV c.change
    · simp -implicitDefEqProofs [h1, h2, b3 h3]
    have hz := sizeV_zero h3
    by_cases h4 : c.change.add = 0 ∧ c.change.del = 0
    · simp -implicitDefEqProofs [h1, h2, h4, b4 (hz.2 h4)]
    have hok : ¬ c.node ≤ last → okC last c = true := fun h => okC_5 last c h (by omega) h3 (fun h => h4 (hz.1 h))
    have hcase : (c.change.add = 0 ∧ ¬ c.change.del = 0 ∧ (c.change.del == 0) = false) ∨ (¬ c.change.add = 0 ∧ (c.change.add == 0) = false) := by
      by_cases ha : c.change.add = 0
      · by_cases hd0 : c.change.del = 0
        · exact absurd ⟨ha, hd0⟩ h4
        · exact .inl ⟨ha, hd0, by simpa using hd0⟩
      · exact .inr ⟨ha, by simpa using ha⟩
    by_cases hk0 : k = 0
    · have hm := hl0 hk0
      rw [hok (by omega), Bool.true_and] at hc
      subst hk0
      have hnx : 0 < 1 → ∃ c0, l[1 - 1]? = some c0 ∧ c0.node = c.node := fun _ => ⟨c, hx, rfl⟩
      rcases hcase with ⟨q1, q2, q3⟩ | ⟨q1, q2⟩
      · simp -implicitDefEqProofs [h1, h2, q1, q2, q3, g7, hj1, wr1]
        exact ⟨⟨1, c.node, by simp [g0], by simp [g5], by simp [g6], by simp, by omega, hc, by omega, fun h => absurd h (by omega), hnx⟩, by omega⟩
      · simp -implicitDefEqProofs [h1, h2, q1, q2, g7, hj1, wr1]
        exact ⟨⟨1, c.node, by simp [g0], by simp [g5], by simp [g6], by simp, by omega, hc, by omega, fun h => absurd h (by omega), hnx⟩, by omega⟩
    · obtain ⟨p, hp, hpn⟩ := hlp (by omega)
      have w1 : IntKind.i64.wrap ((k : Int) - 1) = (k : Int) - 1 := w64 (by omega) (by omega)
      have e1 : ((k : Int) - 1).toNat = k - 1 := by omega
      have e2 : (0 : Int) ≤ (k : Int) - 1 := by omega
      have e3 : 0 < k := by omega
      have e4 : (1 : Int) ≤ (k : Int) := by omega
      by_cases h5 : c.node ≤ p.node
      · have hb1 := b1 (by omega)
        rcases hcase with ⟨q1, q2, q3⟩ | ⟨q1, q2⟩
        · simp -implicitDefEqProofs [h1, h2, q1, q2, q3, g0, g7, hj1, w1, e1, e2, e3, e4, hp, eC, h5, hb1]
        · simp -implicitDefEqProofs [h1, h2, q1, q2, g0, g7, hj1, w1, e1, e2, e3, e4, hp, eC, h5, hb1]
      · rw [hok (by omega), Bool.true_and] at hc
        have hnx : 0 < k + 1 → ∃ c0, l[k + 1 - 1]? = some c0 ∧ c0.node = c.node := fun _ => ⟨c, hx, rfl⟩
        rcases hcase with ⟨q1, q2, q3⟩ | ⟨q1, q2⟩
        · simp -implicitDefEqProofs [h1, h2, q1, q2, q3, g0, g7, hj1, w1, e1, e2, e3, e4, hp, eC, h5]
          exact ⟨⟨k + 1, c.node, by simp [g0], by simp [g5], by simp [g6], by simp, by omega, hc, by omega, fun h => absurd h (by omega), hnx⟩, by omega⟩
        · simp -implicitDefEqProofs [h1, h2, q1, q2, g0, g7, hj1, w1, e1, e2, e3, e4, hp, eC, h5]
          exact ⟨⟨k + 1, c.node, by simp [g0], by simp [g5], by simp [g6], by simp, by omega, hc, by omega, fun h => absurd h (by omega), hnx⟩, by omega⟩
  · have hk' : k = l.length := by omega
    subst hk'
    rw [List.drop_length, checkC] at hc
    simp -implicitDefEqProofs [← hc]
def Ck7I (l : List PEntry) (t : Nat → AV) (_ : Nat → Option (List AV)) : Prop := ∃ (k : Nat) (last : Int), t 0 = .sl .no (eEs l) ∧ t 5 = .sl .no (eEs l) ∧ t 6 = eI l.length ∧ t 7 = eI k ∧ k ≤ l.length ∧ checkE last (l.drop k) = checkE (-1) l ∧ -1 ≤ last ∧ (k = 0 → last = -1) ∧ (0 < k → ∃ c, l[k - 1]? = some c ∧ c.key = last)
theorem check7_spec (l : List PEntry) : ASpec Try.prog 89 [.sl .no (eEs l)] (· = eI (if checkE (-1) l = true then 0 else 71)) := by
  refine ASpec.of_awp Try.func89 (by kernel_rfl) rfl (by rw [Try.results89]) Try.ntmps89 ?_
  simp -implicitDefEqProofs
  intro hlen
  refine loopK.intro (Ck7I l) (fun t => l.length - natOf (t 7)) ?_ ?_
  · exact ⟨0, -1, by simp, by simp, by simp, by simp, by omega, by simp, by omega, fun _ => rfl, fun h => absurd h (by omega)⟩
  rintro t hh ⟨k, last, g0, g5, g6, g7, hk, hc, hl1, hl0, hlp⟩
  simp -implicitDefEqProofs [g6, g7]
  refine branch_dec (fun hlt => ?_) (fun hlt => ?_)
  · have hlt : k < l.length := by omega
    obtain ⟨c, hx⟩ : ∃ c, l[k]? = some c := ⟨l[k], by simp [hlt]⟩
    have hd : l.drop k = c :: l.drop (k + 1) := by
      rw [List.drop_eq_getElem_cons hlt]
      rw [List.getElem?_eq_getElem hlt] at hx
      injection hx with hx
      rw [hx]
    rw [hd, checkE] at hc
    have hj1 : IntKind.i64.wrap ((k : Int) + 1) = (k : Int) + 1 := w64 (by omega) (by omega)
    have bad : okE last c = false → checkE (-1) l = false := fun h => by rw [← hc, h]; rfl
    have b1 := fun h => bad (okE_1 last c h)
    have b2 := fun h => bad (okE_2 last c h)
    have b3 := fun h => bad (okE_3 last c h)
    have b4 := fun h => bad (okE_4 last c h)
    simp -implicitDefEqProofs [g5, g6, g7, hx, eE]
    refine allocK.intro (fun b hb => ?_)
    simp -implicitDefEqProofs [g5, g7, hx, eE]
    refine regionK.intro 35 follows_mixed (by kernel_rfl) ?_
    by_cases h1 : c.key < 0
    · simp -implicitDefEqProofs [h1, b1 (by omega)]
    by_cases h2 : 3 < c.key
    · simp -implicitDefEqProofs [h1, h2, b2 (by omega)]
    simp -implicitDefEqProofs [h1, h2]
    refine CallQ.with (right6_spec c.tag) (by simp [eT]) ?_
    cases h3 : rightT c.tag
    · simp -implicitDefEqProofs [h1, h2, b3 h3]
    by_cases h4 : c.tag.num = 0
    · simp -implicitDefEqProofs [h1, h2, h4, b4 h4]
    have hok : ¬ c.key ≤ last → okE last c = true := fun h => okE_5 last c h (by omega) h3 h4
    by_cases hk0 : k = 0
    · have hm := hl0 hk0
      rw [hok (by omega), Bool.true_and] at hc
      subst hk0
      have hnx : 0 < 1 → ∃ c0, l[1 - 1]? = some c0 ∧ c0.key = c.key := fun _ => ⟨c, hx, rfl⟩
      simp -implicitDefEqProofs [h1, h2, h4, g7, hj1, wr1]
      exact ⟨⟨1, c.key, by simp [g0], by simp [g5], by simp [g6], by simp, by omega, hc, by omega, fun h => absurd h (by omega), hnx⟩, by omega⟩
    · obtain ⟨p, hp, hpn⟩ := hlp (by omega)
      have w1 : IntKind.i64.wrap ((k : Int) - 1) = (k : Int) - 1 := w64 (by omega) (by omega)
      have e1 : ((k : Int) - 1).toNat = k - 1 := by omega
      have e2 : (0 : Int) ≤ (k : Int) - 1 := by omega
      have e3 : 0 < k := by omega
      have e4 : (1 : Int) ≤ (k : Int) := by omega
      by_cases h5 : c.key ≤ p.key
      · have hb1 := b1 (by omega)
        simp -implicitDefEqProofs [h1, h2, h4, g0, g7, hj1, w1, e1, e2, e3, e4, hp, eE, h5, hb1]
      · rw [hok (by omega), Bool.true_and] at hc
        have hnx : 0 < k + 1 → ∃ c0, l[k + 1 - 1]? = some c0 ∧ c0.key = c.key := fun _ => ⟨c, hx, rfl⟩
        simp -implicitDefEqProofs [h1, h2, h4, g0, g7, hj1, w1, e1, e2, e3, e4, hp, eE, h5]
        exact ⟨⟨k + 1, c.key, by simp [g0], by simp [g5], by simp [g6], by simp, by omega, hc, by omega, fun h => absurd h (by omega), hnx⟩, by omega⟩
  · have hk' : k = l.length := by omega
    subst hk'
    rw [List.drop_length, checkE] at hc
    simp -implicitDefEqProofs [← hc]
end Go.Proofs.Ytbgifnlaaophcaa

/- Contracts: messages, told otherwise. No condition. -/
set_option linter.unusedSimpArgs false
set_option linter.unusedVariables false
set_option maxRecDepth 10000
namespace Go.Proofs.Ytbgifnlaaophcaa
open Go Go.Rw Go.Proofs
-- a goal is never to be run by the elaborator
attribute [local irreducible] awp aops aop aopsE aeff

theorem same11_spec (x y : PMsg) (hx : fitM x) (hy : fitM y) : ASpec Try.prog 22 [.agg (eM x), .agg (eM y)] (· = .v (.bool (sameM x y))) := by
  refine ASpec.of_awp Try.func22 (by kernel_rfl) rfl (by rw [Try.results22]) Try.ntmps22 ?_
  simp -implicitDefEqProofs [eM]
  refine allocK.intro (fun b hb => ?_)
  simp -implicitDefEqProofs
  refine allocK.intro (fun b2 hb2 => ?_)
  have hbb : ¬ b = b2 := by rintro rfl; simp at hb2
  have hbb' : ¬ b2 = b := fun h => hbb h.symm
  by_cases h1 : x.kind = y.kind
  · by_cases h2 : x.frm = y.frm
    · by_cases h3 : x.to = y.to
      · by_cases h4 : x.inc = y.inc
        · by_cases h5 : x.seq = y.seq
          · by_cases h6 : x.view.add = y.view.add
            · by_cases h7 : x.view.del = y.view.del
              · have hh : headM x y = true := by simp [headM, h1, h2, h3, h4, h5, h6, h7]
                simp -implicitDefEqProofs [hbb, hbb', h1, h2, h3, h4, h5, h6, h7]
                refine CallK.eq (same10_spec x.cells y.cells) ?_
                by_cases h8 : x.cells = y.cells
                · simp -implicitDefEqProofs [hbb, hbb', h8]
                  refine CallK.eq (same7_spec x.book y.book hx hy) ?_
                  simp -implicitDefEqProofs [sameM, hh, h8]
                · simp -implicitDefEqProofs [hbb, hbb', h8, sameM]
              · have e7 : (x.view.del == y.view.del) = false := by simpa using h7
                simp -implicitDefEqProofs [hbb, hbb', h1, h2, h3, h4, h5, h6, h7, e7, sameM, headM]
            · have e6 : (x.view.add == y.view.add) = false := by simpa using h6
              simp -implicitDefEqProofs [hbb, hbb', h1, h2, h3, h4, h5, h6, e6, sameM, headM]
          · simp -implicitDefEqProofs [hbb, hbb', h1, h2, h3, h4, h5, sameM, headM]
        · simp -implicitDefEqProofs [hbb, hbb', h1, h2, h3, h4, sameM, headM]
      · simp -implicitDefEqProofs [hbb, hbb', h1, h2, h3, sameM, headM]
    · simp -implicitDefEqProofs [hbb, hbb', h1, h2, sameM, headM]
  · simp -implicitDefEqProofs [hbb, hbb', h1, sameM, headM]

theorem copy11_spec (m : PMsg) (h1 : m.cells.length * 24 ≤ 140737488355328) (h2 : m.book.length * 32 ≤ 140737488355328) : ASpec Try.prog 31 [.agg (eM m)] (· = .agg (eM m)) := by
  refine ASpec.of_awp Try.func31 (by kernel_rfl) rfl (by rw [Try.results31]) Try.ntmps31 ?_
  simp -implicitDefEqProofs [eM]
  refine allocK.intro (fun b hb => ?_)
  simp -implicitDefEqProofs
  refine allocK.intro (fun b2 hb2 => ?_)
  have hbb : ¬ b = b2 := by rintro rfl; simp at hb2
  have hbb' : ¬ b2 = b := fun h => hbb h.symm
  simp -implicitDefEqProofs [hbb, hbb']
  exact ⟨h1, h2, rfl⟩

set_option maxHeartbeats 2000000 in
theorem answers11_spec (q a : PMsg) : ASpec Try.prog 30 [.agg (eM q), .agg (eM a)] (· = .v (.bool (answersM q a))) := by
  refine ASpec.of_awp Try.func30 (by kernel_rfl) rfl (by rw [Try.results30]) Try.ntmps30 ?_
  simp -implicitDefEqProofs [eM]
  refine allocK.intro (fun b hb => ?_)
  simp -implicitDefEqProofs
  refine allocK.intro (fun b2 hb2 => ?_)
  have hbb : ¬ b = b2 := by rintro rfl; simp at hb2
  have hbb' : ¬ b2 = b := fun h => hbb h.symm
  simp -implicitDefEqProofs [hbb, hbb']
  have hcases : q.kind = 0 ∨ q.kind = 1 ∨ q.kind = 2 ∨ q.kind = 3 ∨ q.kind = 4 ∨ (¬ q.kind = 0 ∧ ¬ q.kind = 1 ∧ ¬ q.kind = 2 ∧ ¬ q.kind = 3 ∧ ¬ q.kind = 4) := by omega
  rcases hcases with k | k | k | k | k | ⟨k0, k1, k2, k3, k4⟩
  · by_cases ha : a.kind = 5
    · by_cases h0 : q.frm = a.to
      · by_cases h1 : q.to = a.frm
        · by_cases h2 : q.inc = a.inc
          · by_cases h3 : q.seq = a.seq
            · by_cases h4 : q.view.add = a.view.add
              · by_cases h5 : q.view.del = a.view.del
                · simp -implicitDefEqProofs [hbb, hbb', k, ha, h0, h1, h2, h3, h4, h5, answersM, kindN]
                · have h5' : ¬ a.view.del = q.view.del := fun h => h5 h.symm
                  have h5b : (q.view.del == a.view.del) = false := by simpa using h5
                  simp -implicitDefEqProofs [hbb, hbb', k, ha, h0, h1, h2, h3, h4, h5, h5', h5b, answersM, kindN]
              · have h4' : ¬ a.view.add = q.view.add := fun h => h4 h.symm
                have h4b : (q.view.add == a.view.add) = false := by simpa using h4
                simp -implicitDefEqProofs [hbb, hbb', k, ha, h0, h1, h2, h3, h4, h4', h4b, answersM, kindN]
            · have h3' : ¬ a.seq = q.seq := fun h => h3 h.symm
              simp -implicitDefEqProofs [hbb, hbb', k, ha, h0, h1, h2, h3, h3', answersM, kindN]
          · have h2' : ¬ a.inc = q.inc := fun h => h2 h.symm
            simp -implicitDefEqProofs [hbb, hbb', k, ha, h0, h1, h2, h2', answersM, kindN]
        · have h1' : ¬ a.frm = q.to := fun h => h1 h.symm
          simp -implicitDefEqProofs [hbb, hbb', k, ha, h0, h1, h1', answersM, kindN]
      · have h0' : ¬ a.to = q.frm := fun h => h0 h.symm
        simp -implicitDefEqProofs [hbb, hbb', k, ha, h0, h0', answersM, kindN]
    · simp -implicitDefEqProofs [hbb, hbb', k, ha, answersM, kindN]
  · by_cases ha : a.kind = 7
    · by_cases h0 : q.frm = a.to
      · by_cases h1 : q.to = a.frm
        · by_cases h2 : q.inc = a.inc
          · by_cases h3 : q.seq = a.seq
            · by_cases h4 : q.view.add = a.view.add
              · by_cases h5 : q.view.del = a.view.del
                · simp -implicitDefEqProofs [hbb, hbb', k, ha, h0, h1, h2, h3, h4, h5, answersM, kindN]
                · have h5' : ¬ a.view.del = q.view.del := fun h => h5 h.symm
                  have h5b : (q.view.del == a.view.del) = false := by simpa using h5
                  simp -implicitDefEqProofs [hbb, hbb', k, ha, h0, h1, h2, h3, h4, h5, h5', h5b, answersM, kindN]
              · have h4' : ¬ a.view.add = q.view.add := fun h => h4 h.symm
                have h4b : (q.view.add == a.view.add) = false := by simpa using h4
                simp -implicitDefEqProofs [hbb, hbb', k, ha, h0, h1, h2, h3, h4, h4', h4b, answersM, kindN]
            · have h3' : ¬ a.seq = q.seq := fun h => h3 h.symm
              simp -implicitDefEqProofs [hbb, hbb', k, ha, h0, h1, h2, h3, h3', answersM, kindN]
          · have h2' : ¬ a.inc = q.inc := fun h => h2 h.symm
            simp -implicitDefEqProofs [hbb, hbb', k, ha, h0, h1, h2, h2', answersM, kindN]
        · have h1' : ¬ a.frm = q.to := fun h => h1 h.symm
          simp -implicitDefEqProofs [hbb, hbb', k, ha, h0, h1, h1', answersM, kindN]
      · have h0' : ¬ a.to = q.frm := fun h => h0 h.symm
        simp -implicitDefEqProofs [hbb, hbb', k, ha, h0, h0', answersM, kindN]
    · simp -implicitDefEqProofs [hbb, hbb', k, ha, answersM, kindN]
  · by_cases ha : a.kind = 6
    · by_cases h0 : q.frm = a.to
      · by_cases h1 : q.to = a.frm
        · by_cases h2 : q.inc = a.inc
          · by_cases h3 : q.seq = a.seq
            · by_cases h4 : q.view.add = a.view.add
              · by_cases h5 : q.view.del = a.view.del
                · simp -implicitDefEqProofs [hbb, hbb', k, ha, h0, h1, h2, h3, h4, h5, answersM, kindN]
                · have h5' : ¬ a.view.del = q.view.del := fun h => h5 h.symm
                  have h5b : (q.view.del == a.view.del) = false := by simpa using h5
                  simp -implicitDefEqProofs [hbb, hbb', k, ha, h0, h1, h2, h3, h4, h5, h5', h5b, answersM, kindN]
              · have h4' : ¬ a.view.add = q.view.add := fun h => h4 h.symm
                have h4b : (q.view.add == a.view.add) = false := by simpa using h4
                simp -implicitDefEqProofs [hbb, hbb', k, ha, h0, h1, h2, h3, h4, h4', h4b, answersM, kindN]
            · have h3' : ¬ a.seq = q.seq := fun h => h3 h.symm
              simp -implicitDefEqProofs [hbb, hbb', k, ha, h0, h1, h2, h3, h3', answersM, kindN]
          · have h2' : ¬ a.inc = q.inc := fun h => h2 h.symm
            simp -implicitDefEqProofs [hbb, hbb', k, ha, h0, h1, h2, h2', answersM, kindN]
        · have h1' : ¬ a.frm = q.to := fun h => h1 h.symm
          simp -implicitDefEqProofs [hbb, hbb', k, ha, h0, h1, h1', answersM, kindN]
      · have h0' : ¬ a.to = q.frm := fun h => h0 h.symm
        simp -implicitDefEqProofs [hbb, hbb', k, ha, h0, h0', answersM, kindN]
    · simp -implicitDefEqProofs [hbb, hbb', k, ha, answersM, kindN]
  · by_cases ha : a.kind = 7
    · by_cases h0 : q.frm = a.to
      · by_cases h1 : q.to = a.frm
        · by_cases h2 : q.inc = a.inc
          · by_cases h3 : q.seq = a.seq
            · by_cases h4 : q.view.add = a.view.add
              · by_cases h5 : q.view.del = a.view.del
                · simp -implicitDefEqProofs [hbb, hbb', k, ha, h0, h1, h2, h3, h4, h5, answersM, kindN]
                · have h5' : ¬ a.view.del = q.view.del := fun h => h5 h.symm
                  have h5b : (q.view.del == a.view.del) = false := by simpa using h5
                  simp -implicitDefEqProofs [hbb, hbb', k, ha, h0, h1, h2, h3, h4, h5, h5', h5b, answersM, kindN]
              · have h4' : ¬ a.view.add = q.view.add := fun h => h4 h.symm
                have h4b : (q.view.add == a.view.add) = false := by simpa using h4
                simp -implicitDefEqProofs [hbb, hbb', k, ha, h0, h1, h2, h3, h4, h4', h4b, answersM, kindN]
            · have h3' : ¬ a.seq = q.seq := fun h => h3 h.symm
              simp -implicitDefEqProofs [hbb, hbb', k, ha, h0, h1, h2, h3, h3', answersM, kindN]
          · have h2' : ¬ a.inc = q.inc := fun h => h2 h.symm
            simp -implicitDefEqProofs [hbb, hbb', k, ha, h0, h1, h2, h2', answersM, kindN]
        · have h1' : ¬ a.frm = q.to := fun h => h1 h.symm
          simp -implicitDefEqProofs [hbb, hbb', k, ha, h0, h1, h1', answersM, kindN]
      · have h0' : ¬ a.to = q.frm := fun h => h0 h.symm
        simp -implicitDefEqProofs [hbb, hbb', k, ha, h0, h0', answersM, kindN]
    · simp -implicitDefEqProofs [hbb, hbb', k, ha, answersM, kindN]
  · by_cases ha : a.kind = 7
    · by_cases h0 : q.frm = a.to
      · by_cases h1 : q.to = a.frm
        · by_cases h2 : q.inc = a.inc
          · by_cases h3 : q.seq = a.seq
            · by_cases h4 : q.view.add = a.view.add
              · by_cases h5 : q.view.del = a.view.del
                · simp -implicitDefEqProofs [hbb, hbb', k, ha, h0, h1, h2, h3, h4, h5, answersM, kindN]
                · have h5' : ¬ a.view.del = q.view.del := fun h => h5 h.symm
                  have h5b : (q.view.del == a.view.del) = false := by simpa using h5
                  simp -implicitDefEqProofs [hbb, hbb', k, ha, h0, h1, h2, h3, h4, h5, h5', h5b, answersM, kindN]
              · have h4' : ¬ a.view.add = q.view.add := fun h => h4 h.symm
                have h4b : (q.view.add == a.view.add) = false := by simpa using h4
                simp -implicitDefEqProofs [hbb, hbb', k, ha, h0, h1, h2, h3, h4, h4', h4b, answersM, kindN]
            · have h3' : ¬ a.seq = q.seq := fun h => h3 h.symm
              simp -implicitDefEqProofs [hbb, hbb', k, ha, h0, h1, h2, h3, h3', answersM, kindN]
          · have h2' : ¬ a.inc = q.inc := fun h => h2 h.symm
            simp -implicitDefEqProofs [hbb, hbb', k, ha, h0, h1, h2, h2', answersM, kindN]
        · have h1' : ¬ a.frm = q.to := fun h => h1 h.symm
          simp -implicitDefEqProofs [hbb, hbb', k, ha, h0, h1, h1', answersM, kindN]
      · have h0' : ¬ a.to = q.frm := fun h => h0 h.symm
        simp -implicitDefEqProofs [hbb, hbb', k, ha, h0, h0', answersM, kindN]
    · simp -implicitDefEqProofs [hbb, hbb', k, ha, answersM, kindN]
  · have kk : ¬ (0 ≤ q.kind ∧ q.kind ≤ 4) := by omega
    simp -implicitDefEqProofs [hbb, hbb', k0, k1, k2, k3, k4, answersM]
    intro q1 q2
    exact absurd ⟨q1, q2⟩ kk
end Go.Proofs.Ytbgifnlaaophcaa

/- Contracts: messages that can be, told otherwise. No condition. -/
set_option linter.unusedSimpArgs false
set_option linter.unusedVariables false
set_option maxRecDepth 10000
namespace Go.Proofs.Ytbgifnlaaophcaa
open Go Go.Rw Go.Proofs
-- a goal is never to be run by the elaborator
attribute [local irreducible] awp aops aop aopsE aeff

theorem right_no {m : PMsg} (h : rightM m = true → False) : rightM m = false := by
  cases hr : rightM m
  · rfl
  · exact (h hr).elim
set_option maxHeartbeats 2000000 in
theorem right11_spec (m : PMsg) : ASpec Try.prog 28 [.agg (eM m)] (· = .v (.bool (rightM m))) := by
  refine ASpec.of_awp Try.func28 (by kernel_rfl) rfl (by rw [Try.results28]) Try.ntmps28 ?_
  simp -implicitDefEqProofs [eM]
  refine allocK.intro (fun b hb => ?_)
  by_cases h1 : m.kind < 0
  · have e := right_no (m := m) fun hr => by have := (rightM_of hr).kind; omega
    simp -implicitDefEqProofs [h1, e]
  by_cases h2 : 7 < m.kind
  · have e := right_no (m := m) fun hr => by have := (rightM_of hr).kind; omega
    simp -implicitDefEqProofs [h1, h2, e]
  by_cases h3 : m.frm < 0
  · have e := right_no (m := m) fun hr => by have := (rightM_of hr).frm; omega
    simp -implicitDefEqProofs [h1, h2, h3, e]
  by_cases h4 : 5 < m.frm
  · have e := right_no (m := m) fun hr => by have := (rightM_of hr).frm; omega
    simp -implicitDefEqProofs [h1, h2, h3, h4, e]
  by_cases h5 : m.to < 0
  · have e := right_no (m := m) fun hr => by have := (rightM_of hr).to; omega
    simp -implicitDefEqProofs [h1, h2, h3, h4, h5, e]
  by_cases h6 : 5 < m.to
  · have e := right_no (m := m) fun hr => by have := (rightM_of hr).to; omega
    simp -implicitDefEqProofs [h1, h2, h3, h4, h5, h6, e]
  by_cases h7 : m.inc < 1
  · have e := right_no (m := m) fun hr => by have := (rightM_of hr).inc; omega
    simp -implicitDefEqProofs [h1, h2, h3, h4, h5, h6, h7, e]
  by_cases h8 : 1000000 < m.inc
  · have e := right_no (m := m) fun hr => by have := (rightM_of hr).inc; omega
    simp -implicitDefEqProofs [h1, h2, h3, h4, h5, h6, h7, h8, e]
  by_cases h9 : m.seq < 1
  · have e := right_no (m := m) fun hr => by have := (rightM_of hr).seq; omega
    simp -implicitDefEqProofs [h1, h2, h3, h4, h5, h6, h7, h8, h9, e]
  by_cases h10 : 1000000 < m.seq
  · have e := right_no (m := m) fun hr => by have := (rightM_of hr).seq; omega
    simp -implicitDefEqProofs [h1, h2, h3, h4, h5, h6, h7, h8, h9, h10, e]
  have b1 : betweenB m.kind 0 7 = true := by simp [betweenB]; omega
  have b2 : betweenB m.frm 0 5 = true := by simp [betweenB]; omega
  have b3 : betweenB m.to 0 5 = true := by simp [betweenB]; omega
  have b4 : betweenB m.inc 1 1000000 = true := by simp [betweenB]; omega
  have b5 : betweenB m.seq 1 1000000 = true := by simp [betweenB]; omega
  have e : rightM m = ((decide (m.cells = []) || decide (m.kind = 1) || decide (m.kind = 5)) && (decide (m.book = []) || decide (m.kind = 3) || decide (m.kind = 6)) && rightV m.view && checkC (-1) m.cells && checkE (-1) m.book) := by
    simp only [rightM, b1, b2, b3, b4, b5, Bool.true_and]
  simp -implicitDefEqProofs [h1, h2, h3, h4, h5, h6, h7, h8, h9, h10]
  refine CallK.with (right4_spec m.view) (by simp [eV]) ?_
  cases hv : rightV m.view
  · have e2 : rightM m = false := by rw [e, hv]; simp
    simp -implicitDefEqProofs [e2]
  simp -implicitDefEqProofs
  refine CallK.eq (check10_spec m.cells) ?_
  cases hc : checkC (-1) m.cells
  · have e2 : rightM m = false := by rw [e, hc]; simp
    simp -implicitDefEqProofs [e2]
  simp -implicitDefEqProofs
  refine CallK.eq (check7_spec m.book) ?_
  cases hbk : checkE (-1) m.book
  · have e2 : rightM m = false := by rw [e, hbk]; simp
    simp -implicitDefEqProofs [e2]
  rw [hv, hc, hbk, Bool.and_true, Bool.and_true, Bool.and_true] at e
  rw [e]
  have hcl : m.cells = [] ∨ (¬ m.cells = [] ∧ ¬ (m.cells.length : Int) = 0) := by
    cases m.cells with
    | nil => exact .inl rfl
    | cons x l => exact .inr ⟨by simp, by simp only [List.length_cons]; omega⟩
  have hbl : m.book = [] ∨ (¬ m.book = [] ∧ ¬ (m.book.length : Int) = 0) := by
    cases m.book with
    | nil => exact .inl rfl
    | cons x l => exact .inr ⟨by simp, by simp only [List.length_cons]; omega⟩
  have hkk : m.kind = 1 ∨ m.kind = 5 ∨ m.kind = 3 ∨ m.kind = 6 ∨ (¬ m.kind = 1 ∧ ¬ m.kind = 5 ∧ ¬ m.kind = 3 ∧ ¬ m.kind = 6) := by omega
  rcases hkk with k | k | k | k | ⟨k1, k5, k3, k6⟩
  · rcases hbl with q | ⟨q, q2⟩ <;> simp -implicitDefEqProofs [*]
  · rcases hbl with q | ⟨q, q2⟩ <;> simp -implicitDefEqProofs [*]
  · rcases hcl with p | ⟨p, p2⟩ <;> simp -implicitDefEqProofs [*]
  · rcases hcl with p | ⟨p, p2⟩ <;> simp -implicitDefEqProofs [*]
  · rcases hcl with p | ⟨p, p2⟩
    · rcases hbl with q | ⟨q, q2⟩ <;> simp -implicitDefEqProofs [*]
    · simp -implicitDefEqProofs [*]
end Go.Proofs.Ytbgifnlaaophcaa

/- Contracts: frames of messages, told otherwise. No condition. -/
set_option linter.unusedSimpArgs false
set_option linter.unusedVariables false
set_option maxRecDepth 10000
namespace Go.Proofs.Ytbgifnlaaophcaa
open Go Go.Rw Go.Proofs
-- a goal is never to be run by the elaborator
attribute [local irreducible] awp aops aop aopsE aeff

theorem wuNat {n : Int} (h0 : 0 ≤ n) (h1 : n < 18446744073709551616) : IntKind.u64.wrap n = ((n.toNat : Nat) : Int) := by rw [wu64 h0 h1]; omega
def headU (m : PMsg) : List Nat := (headN m).map Int.toNat
theorem eU_int (ns : List Int) (h : ∀ n ∈ ns, 0 ≤ n) : ns.map (fun n => [AV.v (.int .u64 n)]) = eU (ns.map Int.toNat) := by
  simp only [eU, List.map_map]
  apply List.map_congr_left
  intro n hn
  have := h n hn
  simp only [Function.comp_def, encU]
  rw [Int.toNat_of_nonneg this]
theorem headU_rows {m : PMsg} (R : RightM m) : [[AV.v (.int .u64 m.kind)], [AV.v (.int .u64 m.frm)], [AV.v (.int .u64 m.to)], [AV.v (.int .u64 m.inc)], [AV.v (.int .u64 m.seq)], [AV.v (.int .u64 (nameV m.view))], [AV.v (.int .u64 m.cells.length)]] = eU (headU m) := by
  have hk := R.kind; have hfr := R.frm; have ht := R.to; have hi := R.inc; have hs := R.seq; have hv := nameV_lt R.view
  exact eU_int (headN m) (by simp [headN]; omega)
theorem cell_rows {c : PCell} (h0 : 0 ≤ c.node) (h1 : 0 ≤ nameV c.change) : [[AV.v (.int .u64 c.node)], [AV.v (.int .u64 (nameV c.change))]] = eU ((numC c).map Int.toNat) := eU_int (numC c) (by simp [numC]; omega)
def F11I (m : PMsg) (b : Nat) (t : Nat → AV) (h : Nat → Option (List AV)) : Prop := ∃ (k : Nat) (cur : List Nat) (tag : Tag), t 1 = .ptr b 0 ∧ t 37 = .sl .no (eCs m.cells) ∧ t 38 = eI m.cells.length ∧ t 39 = eI k ∧ t 4 = .sl tag (eU cur) ∧ appOK tag 102 1 ∧
  h b = some (eM m) ∧ k ≤ m.cells.length ∧ cur ++ numsC (m.cells.drop k) = headU m ++ numsC m.cells ∧ cur.length ≤ 7 + 2 * k
def F11M (m : PMsg) (b : Nat) (t : Nat → AV) (h : Nat → Option (List AV)) : Prop := ∃ (cur : List Nat) (tag : Tag), t 1 = .ptr b 0 ∧ t 4 = .sl tag (eU cur) ∧ appOK tag 102 1 ∧
  h b = some (eM m) ∧ cur = headU m ++ numsC m.cells ∧ cur.length ≤ 19
def F11J (m : PMsg) (t : Nat → AV) (h : Nat → Option (List AV)) : Prop := ∃ (k : Nat) (cur : List Nat) (tag : Tag), t 62 = .sl .no (eEs m.book) ∧ t 63 = eI m.book.length ∧ t 64 = eI k ∧ t 4 = .sl tag (eU cur) ∧ appOK tag 102 1 ∧
  k ≤ m.book.length ∧ cur ++ numsE (m.book.drop k) = numsM bitsF m ∧ cur.length ≤ 20 + 4 * k
theorem numsM_lt {m : PMsg} (R : RightM m) (hf : fitM m) : ∀ n ∈ numsM bitsF m, n < 18446744073709551616 := by
  have hk := R.kind; have hfr := R.frm; have ht := R.to; have hi := R.inc; have hs := R.seq; have hv := nameV_lt R.view
  have hcl := R.clen; have hbl := R.blen
  intro n hn
  simp only [numsM, List.mem_append, List.mem_map, List.mem_flatMap, List.mem_singleton] at hn
  rcases hn with ((⟨x, hx, rfl⟩ | ⟨c, hc, x, hx, rfl⟩) | rfl) | ⟨e, he, hx⟩
  · simp only [headN, List.mem_cons, List.not_mem_nil, or_false] at hx
    omega
  · obtain ⟨c1, c2, c3⟩ := R.cells c hc
    have := nameV_lt c3
    simp only [numC, List.mem_cons, List.not_mem_nil, or_false] at hx
    omega
  · omega
  · obtain ⟨c1, c2, c3⟩ := R.book e he
    have := rightT_of c3
    have hb := bitsF_lt (hf e he)
    simp only [numE, List.mem_cons, List.not_mem_nil, or_false] at hx
    omega
theorem frame11_spec (m : PMsg) (hf : fitM m) : ASpec Try.prog 27 [.agg (eM m)] (· = frameA (if rightM m = true then some (frameF bitsF m) else none)) := by
  refine ASpec.of_awp Try.func27 (by kernel_rfl) rfl (by rw [Try.results27]) Try.ntmps27 ?_
  simp -implicitDefEqProofs [eM]
  refine allocK.intro (fun b hb => ?_)
  simp -implicitDefEqProofs
  refine CallK.with (right11_spec m) (by simp [eM]) ?_
  cases hr : rightM m
  · simp -implicitDefEqProofs [frameA]
  have R := rightM_of hr
  have hk := R.kind; have hfr := R.frm; have ht := R.to; have hi := R.inc; have hs := R.seq; have hv := nameV_lt R.view
  have hcl := R.clen; have hbl := R.blen
  have w1 := wu64 hk.1 (by omega)
  have w2 := wu64 hfr.1 (by omega)
  have w3 := wu64 ht.1 (by omega)
  have w4 : IntKind.u64.wrap m.inc = m.inc := wu64 (by omega) (by omega)
  have w5 : IntKind.u64.wrap m.seq = m.seq := wu64 (by omega) (by omega)
  have w6 : IntKind.u64.wrap (nameV m.view) = nameV m.view := wu64 (by omega) (by omega)
  have w7 : IntKind.u64.wrap (m.cells.length : Int) = (m.cells.length : Int) := wu64 (by omega) (by omega)
  simp -implicitDefEqProofs
  refine regionK.intro 25 follows_mixed (by kernel_rfl) ?_
  simp -implicitDefEqProofs
  refine CallQ.with (name4_spec m.view R.view) (by simp [eV]) ?_
  simp -implicitDefEqProofs [w1, w2, w3, w4, w5, w6, w7]
  intro hlen
  refine loopK.post (F11I m b) (fun t => m.cells.length - natOf (t 39)) (F11M m b) ?_ ?_ ?_
  · exact ⟨0, headU m, _, by simp, by simp, by simp, by simp, by simp; exact ⟨rfl, headU_rows R⟩, by simp, by simp [eM], by omega, by simp, by simp [headU, headN]⟩
  · rintro t hh ⟨k, cur, tag, g1, g37, g38, g39, g4, gt, gb, hk', he, hc⟩
    simp -implicitDefEqProofs [g38, g39]
    refine branch_dec (fun hlt => ?_) (fun hlt => ?_)
    · have hlt : k < m.cells.length := by omega
      obtain ⟨c, hx⟩ : ∃ c, m.cells[k]? = some c := ⟨m.cells[k], by simp [hlt]⟩
      have hd : m.cells.drop k = c :: m.cells.drop (k + 1) := by
        rw [List.drop_eq_getElem_cons hlt]; rw [List.getElem?_eq_getElem hlt] at hx; rw [Option.some.inj hx]
      have hc3 := R.cells c (List.mem_of_getElem? hx)
      have hv2 := nameV_lt hc3.2.2
      have hj1 : IntKind.i64.wrap ((k : Int) + 1) = (k : Int) + 1 := w64 (by omega) (by omega)
      have v1 := wu64 hc3.1 (by omega)
      have v2 := wu64 hv2.1 (by omega)
      simp -implicitDefEqProofs [g37, g39, hx, eC]
      refine allocK.intro (fun b2 hb2 => ?_)
      have hbb : ¬ b = b2 := by rintro rfl; rw [gb] at hb2; simp at hb2
      have hbb' : ¬ b2 = b := fun h => hbb h.symm
      simp -implicitDefEqProofs [hbb, hbb']
      refine regionK.intro 10 follows_mixed (by kernel_rfl) ?_
      simp -implicitDefEqProofs [g4, gt]
      refine CallQ.with (name4_spec c.change hc3.2.2) (by simp [eV]) ?_
      simp -implicitDefEqProofs [g4, gt, v1, v2, g39, hj1]
      rw [cell_rows hc3.1 hv2.1, eU_append]
      refine ⟨by omega, ⟨k + 1, cur ++ (numC c).map Int.toNat, appTag tag 102 1 (eU ((numC c).map Int.toNat)), by simp [g1], by simp [g37], by simp [g38], by simp, by simp, by simp [gt], by simp [hbb, hbb', gb], by omega, ?_, ?_⟩, by omega⟩
      · rw [← he, hd, numsC_cons, List.append_assoc]
      · simp [numC]; omega
    · have hk2 : k = m.cells.length := by omega
      subst hk2
      simp -implicitDefEqProofs
      exact ⟨cur, tag, g1, g4, gt, gb, by simpa [numsC] using he, by omega⟩
  rintro t hh ⟨cur, tag, g1, g4, gt, gb, he, hc⟩
  have w8 : IntKind.u64.wrap (m.book.length : Int) = (m.book.length : Int) := wu64 (by omega) (by omega)
  simp -implicitDefEqProofs [g1, g4, gt, gb, eM, w8]
  intro _
  have hone : eU cur ++ [[AV.v (.int .u64 m.book.length)]] = eU (cur ++ [m.book.length]) := by simp [eU, encU]
  rw [hone]
  refine ⟨by omega, fun _ => ?_⟩
  refine loopK.intro (F11J m) (fun t => m.book.length - natOf (t 64)) ?_ ?_
  · exact ⟨0, cur ++ [m.book.length], appTag tag 102 1 [[AV.v (.int .u64 m.book.length)]], by simp, by simp, by simp, by simp, by simp [gt], by omega, by rw [he]; simp [numsM, headU, numsC, numsE], by simp; omega⟩
  clear g1 g4 gt gb
  rintro t2 hh2 ⟨k, cur, tag, g62, g63, g64, g4, gt, hk', he, hc⟩
  simp -implicitDefEqProofs [g63, g64]
  refine branch_dec (fun hlt => ?_) (fun hlt => ?_)
  · have hlt : k < m.book.length := by omega
    obtain ⟨x, hx⟩ : ∃ x, m.book[k]? = some x := ⟨m.book[k], by simp [hlt]⟩
    have hd : m.book.drop k = x :: m.book.drop (k + 1) := by
      rw [List.drop_eq_getElem_cons hlt]; rw [List.getElem?_eq_getElem hlt] at hx; rw [Option.some.inj hx]
    obtain ⟨x1, x2, x3⟩ := R.book x (List.mem_of_getElem? hx)
    have ht3 := rightT_of x3
    have hj1 : IntKind.i64.wrap ((k : Int) + 1) = (k : Int) + 1 := w64 (by omega) (by omega)
    have v1 := wu64 x1 (by omega)
    have v2 : IntKind.u64.wrap x.tag.num = x.tag.num := wu64 (by omega) (by omega)
    have v3 : IntKind.u64.wrap x.tag.node = x.tag.node := wu64 (by omega) (by omega)
    have hrow : [[AV.v (.int .u64 x.key)], [AV.v (.int .u64 x.tag.num)], [AV.v (.int .u64 x.tag.node)], [AV.v (.int .u64 (bitsF x.value))]] = eU (numE bitsF x) := by
      have := eU_int [x.key, x.tag.num, x.tag.node, (bitsF x.value : Int)] (by simp; omega)
      simpa [numE] using this
    simp -implicitDefEqProofs [g62, g64, hx, eE]
    refine allocK.intro (fun b2 hb2 => ?_)
    simp -implicitDefEqProofs
    refine regionK.intro 18 follows_mixed (by kernel_rfl) ?_
    simp -implicitDefEqProofs [g4, gt]
    refine CallQ.eq (bits1_spec x.value (hf x (List.mem_of_getElem? hx))) ?_
    simp -implicitDefEqProofs [g4, gt, v1, v2, v3, g64, hj1]
    rw [hrow, eU_append]
    refine ⟨by omega, ⟨k + 1, cur ++ numE bitsF x, appTag tag 102 1 (eU (numE bitsF x)), by simp [g62], by simp [g63], by simp, by simp, by simp [gt], by omega, ?_, ?_⟩, by omega⟩
    · rw [← he, hd, numsE_cons, List.append_assoc]
    · simp [numE]; omega
  · have hk2 : k = m.book.length := by omega
    subst hk2
    simp only [List.drop_length, numsE, List.flatMap_nil, List.append_nil] at he
    subst he
    have hlf := forms_length (ns := numsM bitsF m) (numsM_lt R hf)
    simp -implicitDefEqProofs [g4]
    have hput := put2_spec [] (numsM bitsF m) (numsM_lt R hf) (by simp; omega)
    refine CallK.of hput ?_
    rintro _ ⟨tag2, _, rfl⟩
    simp -implicitDefEqProofs
    refine CallK.of (seal3_spec (forms (numsM bitsF m)) (by omega)) ?_
    rintro _ ⟨tag3, _, rfl⟩
    simp -implicitDefEqProofs [frameA, frameF]
end Go.Proofs.Ytbgifnlaaophcaa

/- Plain laws: what is read is the frame of what was read. No condition. -/
set_option linter.unusedSimpArgs false
set_option linter.unusedVariables false
namespace Go.Proofs.Ytbgifnlaaophcaa
open Go Go.Proofs

theorem rdBits_of {r : Rd} (h : (rdBits r).2.2 = false) : r.2 = false ∧ r.1 = formF (rdBits r).1 ++ (rdBits r).2.1 := by
  unfold rdBits at h ⊢
  cases hg : getF r.1 with
  | none => rw [hg] at h; simp at h
  | some p =>
    obtain ⟨n, l⟩ := p
    rw [hg] at h
    by_cases hr : r.2 = true
    · simp [hr] at h
    · have hr' : r.2 = false := by simpa using hr
      refine ⟨hr', ?_⟩
      simp only [hr', Bool.false_eq_true, if_false]
      exact (getF_some hg).1
theorem rdInt_of {r : Rd} (h : (rdInt r).2.2 = false) : r.2 = false ∧ r.1 = formF (rdInt r).1.toNat ++ (rdInt r).2.1 := by
  unfold rdInt at h ⊢
  by_cases h1 : 1000000 < (rdBits r).1
  · rw [if_pos h1] at h; simp at h
  · rw [if_neg h1] at h ⊢
    exact rdBits_of h
theorem nameV_view {n : Int} (h : 0 ≤ n ∧ n < 4096) : nameV (viewN n) = n := by
  simp only [viewN, h, and_self, if_true, nameV]
  omega
theorem rdView_of {r : Rd} (h : (rdView r).2.2 = false) : r.2 = false ∧ r.1 = formF (nameV (rdView r).1).toNat ++ (rdView r).2.1 := by
  simp only [rdView, Bool.or_eq_false_iff, Bool.not_eq_false', decide_eq_true_eq] at h
  have := rdInt_of h.1
  simp only [rdView]
  rw [nameV_view h.2]
  exact this
theorem rdMany_of {m : Int} {r : Rd} (h : (rdMany m r).2.2 = false) : r.2 = false ∧ r.1 = formF (rdMany m r).1.toNat ++ (rdMany m r).2.1 := by
  unfold rdMany at h ⊢
  by_cases h1 : m < (rdInt r).1
  · rw [if_pos h1] at h; simp at h
  · rw [if_neg h1] at h ⊢
    exact rdInt_of h
theorem rdCell_of {r : Rd} (h : (rdCell r).2.2 = false) : r.2 = false ∧ r.1 = forms ((numC (rdCell r).1).map Int.toNat) ++ (rdCell r).2.1 := by
  simp only [rdCell] at h ⊢
  obtain ⟨h1, h2⟩ := rdView_of h
  obtain ⟨h3, h4⟩ := rdInt_of h1
  refine ⟨h3, ?_⟩
  rw [h4]
  conv => lhs; rw [h2]
  simp only [numC, List.map_cons, List.map_nil, forms_cons, forms_nil, List.append_nil, List.append_assoc]
theorem rdEntry_of {cl : Nat → Nat} (hcl : ∀ b, cl (cl b) = cl b) {r : Rd} (h : (rdEntry cl r).2.2 = false) : r.2 = false ∧ r.1 = forms (numE cl (rdEntry cl r).1) ++ (rdEntry cl r).2.1 := by
  simp only [rdEntry, Bool.or_eq_false_iff, Bool.not_eq_false', decide_eq_true_eq] at h ⊢
  obtain ⟨h1, h2⟩ := rdBits_of h.1
  obtain ⟨h3, h4⟩ := rdInt_of h1
  obtain ⟨h5, h6⟩ := rdInt_of h3
  obtain ⟨h7, h8⟩ := rdInt_of h5
  refine ⟨h7, ?_⟩
  simp only [numE]
  rw [h.2]
  conv => lhs; rw [h8, h6, h4, h2]
  simp only [forms_cons, forms_nil, List.append_nil, List.append_assoc]
theorem rdL_of {β : Type} {f : Rd → β × Rd} {num : β → List Nat} (hf : ∀ r, (f r).2.2 = false → r.2 = false ∧ r.1 = forms (num (f r).1) ++ (f r).2.1) :
    ∀ (k : Nat) (r : Rd), (rdL f k r).2.2 = false → r.2 = false ∧ r.1 = forms ((rdL f k r).1.flatMap num) ++ (rdL f k r).2.1
  | 0, r, h => by simpa [rdL] using h
  | k + 1, r, h => by
    simp only [rdL] at h ⊢
    obtain ⟨h1, h2⟩ := hf _ h
    obtain ⟨h3, h4⟩ := rdL_of hf k r h1
    refine ⟨h3, ?_⟩
    rw [h4]
    conv => lhs; rw [h2]
    simp only [List.flatMap_append, forms_append, List.append_assoc, List.flatMap_cons, List.flatMap_nil, List.append_nil]
theorem rdL_length {β : Type} (f : Rd → β × Rd) : ∀ (k : Nat) (r : Rd), (rdL f k r).1.length = k
  | 0, r => rfl
  | k + 1, r => by simp [rdL, rdL_length f k r]
attribute [local irreducible] rdInt rdBits rdL rdMany rdView getF
theorem read_some {cl : Nat → Nat} (hcl : ∀ b, cl (cl b) = cl b) {f : List UInt8} {m : PMsg} (h : readF cl f = some m) : rightM m = true ∧ frameF cl m = f := by
  unfold readF at h
  cases ho : openF f with
  | none => rw [ho] at h; simp at h
  | some b =>
    rw [ho] at h
    simp only at h
    by_cases hc : (rdEs cl (b, false)).2.2 = true ∨ 0 < (rdEs cl (b, false)).2.1.length ∨ rightM (rdMsg cl (b, false)) = false
    · rw [if_pos hc] at h; simp at h
    · rw [if_neg hc] at h
      obtain rfl := Option.some.inj h
      have c1 : (rdEs cl (b, false)).2.2 = false := by
        cases hq : (rdEs cl (b, false)).2.2
        · rfl
        · exact absurd (.inl hq) hc
      have c2 : (rdEs cl (b, false)).2.1 = [] := by
        cases hq : (rdEs cl (b, false)).2.1 with
        | nil => rfl
        | cons x l => exact absurd (.inr (.inl (by rw [hq]; simp))) hc
      have c3 : rightM (rdMsg cl (b, false)) = true := by
        cases hq : rightM (rdMsg cl (b, false))
        · exact absurd (.inr (.inr hq)) hc
        · rfl
      refine ⟨c3, ?_⟩
      generalize hr : ((b, false) : Rd) = r at *
      have hr1 : r.1 = b := by rw [← hr]
      obtain ⟨e1, e2⟩ := rdL_of (f := rdEntry cl) (num := numE cl) (fun r h => rdEntry_of hcl h) _ _ c1
      obtain ⟨e3, e4⟩ := rdMany_of e1
      obtain ⟨e5, e6⟩ := rdL_of (f := rdCell) (num := fun c => (numC c).map Int.toNat) (fun r h => rdCell_of h) _ _ e3
      obtain ⟨e7, e8⟩ := rdMany_of e5
      obtain ⟨e9, e10⟩ := rdView_of e7
      have st : ∀ k, (rdSt r (k + 1)).2 = false → (rdSt r k).2 = false ∧ (rdSt r k).1 = formF (rdVal r k).toNat ++ (rdSt r (k + 1)).1 := fun k hk => rdInt_of hk
      obtain ⟨s4, t4⟩ := st 4 e9
      obtain ⟨s3, t3⟩ := st 3 s4
      obtain ⟨s2, t2⟩ := st 2 s3
      obtain ⟨s1, t1⟩ := st 1 s2
      obtain ⟨s0, t0⟩ := st 0 s1
      have hb : r.1 = forms (numsM cl (rdMsg cl r)) := by
        have hn : numsM cl (rdMsg cl r) = [(rdVal r 0).toNat, (rdVal r 1).toNat, (rdVal r 2).toNat, (rdVal r 3).toNat, (rdVal r 4).toNat, (nameV (rdV r).1).toNat, (rdCs r).1.length] ++ ((rdCs r).1.flatMap (fun c => (numC c).map Int.toNat) ++ ([(rdEs cl r).1.length] ++ (rdEs cl r).1.flatMap (numE cl))) := by
          simp [numsM, headN, rdMsg, msgAt]
        have hl1 : (rdCs r).1.length = (rdNC r).1.toNat := rdL_length _ _ _
        have hl2 : (rdEs cl r).1.length = (rdNE r).1.toNat := rdL_length _ _ _
        have hc2 : (rdL (rdEntry cl) (rdNE r).1.toNat (rdNE r).2).2.1 = [] := c2
        rw [hc2] at e2
        have t0' : r.1 = formF (rdVal r 0).toNat ++ (rdSt r 1).1 := t0
        have e8' : (rdV r).2.1 = formF (rdNC r).1.toNat ++ (rdNC r).2.1 := e8
        have e10' : (rdSt r 5).1 = formF (nameV (rdV r).1).toNat ++ (rdV r).2.1 := e10
        have e6' : (rdNC r).2.1 = forms ((rdCs r).1.flatMap fun c => (numC c).map Int.toNat) ++ (rdCs r).2.1 := e6
        have e4' : (rdCs r).2.1 = formF (rdNE r).1.toNat ++ (rdNE r).2.1 := e4
        have e2' : (rdNE r).2.1 = forms ((rdEs cl r).1.flatMap (numE cl)) ++ [] := e2
        rw [t0', t1, t2, t3, t4, e10', e8', e6', e4', e2', hn, hl1, hl2]
        simp only [forms_append, forms_cons, forms_nil, List.append_nil, List.append_assoc]
      rw [frameF, ← hb, hr1]
      exact (openF_some ho).symm
end Go.Proofs.Ytbgifnlaaophcaa

/- Plain laws: a frame read as a list of numbers, then told again. No condition. -/
set_option linter.unusedSimpArgs false
set_option linter.unusedVariables false
namespace Go.Proofs.Ytbgifnlaaophcaa
open Go Go.Proofs

/-- at most so many numbers out of bytes -/
def getsF : Nat → List UInt8 → Option (List Nat)
  | 0, _ => some []
  | k + 1, l => if l = [] then some [] else match getF l with
    | none => none
    | some (n, r) => (getsF k r).map (n :: ·)
def atN (ns : List Nat) (i : Nat) : Int := match ns[i]? with
  | none => 1099511627776
  | some n => if 1099511627776 < n then 1099511627776 else n
def cntC (ns : List Nat) : Nat := min (atN ns 6).toNat 6
def posE (ns : List Nat) : Nat := 8 + 2 * cntC ns
def cntE (ns : List Nat) : Nat := min (atN ns (7 + 2 * cntC ns)).toNat 4
def cellN (ns : List Nat) (j : Nat) : PCell := ⟨atN ns (7 + 2 * j), viewN (atN ns (8 + 2 * j))⟩
def entryN (ns : List Nat) (p : Nat) : PEntry := ⟨atN ns p, ⟨atN ns (p + 1), atN ns (p + 2)⟩, (ns[p + 3]?).getD 0⟩
def cellsN (ns : List Nat) (k : Nat) : List PCell := (List.range k).map (cellN ns)
def bookN (ns : List Nat) (k : Nat) : List PEntry := (List.range k).map fun j => entryN ns (posE ns + 4 * j)
def msgN (ns : List Nat) : PMsg := ⟨atN ns 0, atN ns 1, atN ns 2, atN ns 3, atN ns 4, viewN (atN ns 5), cellsN ns (cntC ns), bookN ns (cntE ns)⟩
def readN (cl : Nat → Nat) (f : List UInt8) : Option PMsg := match openF f with
  | none => none
  | some b => match getsF 60 b with
    | none => none
    | some ns => if rightM (msgN ns) = true ∧ frameF cl (msgN ns) = f then some (msgN ns) else none

theorem getsF_lt : ∀ (k : Nat) (l : List UInt8) (ns : List Nat), getsF k l = some ns → ∀ n ∈ ns, n < 18446744073709551616
  | 0, l, ns, h => by simp [getsF] at h; subst h; simp
  | k + 1, l, ns, h => by
    simp only [getsF] at h
    by_cases hl : l = []
    · rw [if_pos hl] at h; obtain rfl := Option.some.inj h; simp
    · rw [if_neg hl] at h
      cases hg : getF l with
      | none => rw [hg] at h; simp at h
      | some p =>
        obtain ⟨n, r⟩ := p
        rw [hg] at h
        simp only [Option.map_eq_some_iff] at h
        obtain ⟨ms, hm, rfl⟩ := h
        intro x hx
        rcases List.mem_cons.1 hx with rfl | hx
        · exact (getF_some hg).2
        · exact getsF_lt k r ms hm x hx
theorem getsF_forms : ∀ (k : Nat) (ns : List Nat), (∀ n ∈ ns, n < 18446744073709551616) → ns.length ≤ k → getsF k (forms ns) = some ns
  | 0, ns, _, hk => by
    have : ns = [] := List.length_eq_zero_iff.1 (by omega)
    subst this; rfl
  | k + 1, [], _, _ => by simp [getsF]
  | k + 1, n :: ns, h, hk => by
    have h1 := getF_form (h n (by simp)) (forms ns)
    have h2 := getsF_forms k ns (fun x hx => h x (by simp [hx])) (by simp at hk; omega)
    have h3 : ¬ formF n ++ forms ns = [] := by simp [formF]
    rw [forms_cons, getsF, if_neg h3, h1]
    simp [h2]
theorem flat_get {α β : Type} (f : α → List β) (s : Nat) (hf : ∀ a, (f a).length = s) (t : Nat) (ht : t < s) : ∀ (l : List α) (j : Nat), (l.flatMap f)[s * j + t]? = (l[j]?).bind fun a => (f a)[t]?
  | [], j => by simp
  | a :: l, 0 => by
    rw [List.flatMap_cons, List.getElem?_append_left (by rw [hf]; omega)]
    simp
  | a :: l, j + 1 => by
    rw [List.flatMap_cons, List.getElem?_append_right (by rw [hf, Nat.mul_succ]; omega), hf]
    have : s * (j + 1) + t - s = s * j + t := by rw [Nat.mul_succ]; omega
    rw [this, flat_get f s hf t ht l j]
    simp
theorem atN_of {ns : List Nat} {i n : Nat} (h : ns[i]? = some n) (hn : n ≤ 1099511627776) : atN ns i = n := by
  have : ¬ 1099511627776 < n := by omega
  simp [atN, h, this]
theorem atN_int {ns : List Nat} {i : Nat} {n : Int} (h : ns[i]? = some n.toNat) (h0 : 0 ≤ n) (hn : n ≤ 1000000) : atN ns i = n := by
  rw [atN_of h (by omega)]; omega
theorem nums_split (cl : Nat → Nat) (m : PMsg) : numsM cl m = (headN m).map Int.toNat ++ (m.cells.flatMap (fun c => (numC c).map Int.toNat) ++ ([m.book.length] ++ m.book.flatMap (numE cl))) := by
  simp [numsM]
theorem nums_cell (cl : Nat → Nat) (m : PMsg) (j t : Nat) (ht : t < 2) (hj : j < m.cells.length) : (numsM cl m)[7 + (2 * j + t)]? = (m.cells[j]?).bind fun c => ((numC c).map Int.toNat)[t]? := by
  have hl : (m.cells.flatMap (fun c => (numC c).map Int.toNat)).length = 2 * m.cells.length := by
    have : ∀ l : List PCell, (l.flatMap (fun c => (numC c).map Int.toNat)).length = 2 * l.length := fun l => by
      induction l with
      | nil => rfl
      | cons c l ih => rw [List.flatMap_cons, List.length_append, ih]; simp [numC]; omega
    exact this _
  rw [nums_split, List.getElem?_append_right (by simp [headN])]
  have e : 7 + (2 * j + t) - ((headN m).map Int.toNat).length = 2 * j + t := by simp [headN]
  rw [e, List.getElem?_append_left (by rw [hl]; omega)]
  exact flat_get _ 2 (fun c => rfl) t ht m.cells j
theorem nums_cells_len (l : List PCell) : (l.flatMap (fun c => (numC c).map Int.toNat)).length = 2 * l.length := by
  induction l with
  | nil => rfl
  | cons c l ih => rw [List.flatMap_cons, List.length_append, ih]; simp [numC]; omega
theorem nums_count (cl : Nat → Nat) (m : PMsg) : (numsM cl m)[7 + 2 * m.cells.length]? = some m.book.length := by
  rw [nums_split, List.getElem?_append_right (by simp [headN]), List.getElem?_append_right (by rw [nums_cells_len]; simp [headN])]
  have e : 7 + 2 * m.cells.length - ((headN m).map Int.toNat).length - (m.cells.flatMap fun c => (numC c).map Int.toNat).length = 0 := by
    rw [nums_cells_len]; simp [headN]
  rw [e]
  rfl
theorem nums_entry (cl : Nat → Nat) (m : PMsg) (j t : Nat) (ht : t < 4) : (numsM cl m)[8 + 2 * m.cells.length + (4 * j + t)]? = (m.book[j]?).bind fun c => (numE cl c)[t]? := by
  rw [nums_split, List.getElem?_append_right (by simp [headN]; omega), List.getElem?_append_right (by rw [nums_cells_len]; simp [headN]; omega), List.getElem?_append_right (by rw [nums_cells_len]; simp [headN]; omega)]
  have e : 8 + 2 * m.cells.length + (4 * j + t) - ((headN m).map Int.toNat).length - (m.cells.flatMap fun c => (numC c).map Int.toNat).length - [m.book.length].length = 4 * j + t := by
    rw [nums_cells_len]; simp [headN]; omega
  rw [e]
  exact flat_get _ 4 (fun c => rfl) t ht m.book j
theorem msgN_nums {cl : Nat → Nat} {m : PMsg} (hr : rightM m = true) : msgN (numsM cl m) = cleanM cl m := by
  have R := rightM_of hr
  have hk := R.kind; have hf := R.frm; have ht := R.to; have hi := R.inc; have hs := R.seq; have hv := nameV_lt R.view
  have hcl6 := R.clen; have hb4 := R.blen
  have hh : ∀ (i : Nat) (x : Int), (headN m)[i]? = some x → (numsM cl m)[i]? = some x.toNat := by
    intro i x hx
    rw [nums_split, List.getElem?_append_left (by have := (List.getElem?_eq_some_iff.1 hx).1; simpa using this)]
    simp [hx]
  have a0 := atN_int (hh 0 m.kind rfl) hk.1 (by omega)
  have a1 := atN_int (hh 1 m.frm rfl) hf.1 (by omega)
  have a2 := atN_int (hh 2 m.to rfl) ht.1 (by omega)
  have a3 := atN_int (hh 3 m.inc rfl) (by omega) (by omega)
  have a4 := atN_int (hh 4 m.seq rfl) (by omega) (by omega)
  have a5 := atN_int (hh 5 (nameV m.view) rfl) hv.1 (by omega)
  have a6 := atN_int (hh 6 (m.cells.length : Int) rfl) (by omega) (by omega)
  have hcc : cntC (numsM cl m) = m.cells.length := by rw [cntC, a6]; omega
  have hce : cntE (numsM cl m) = m.book.length := by
    rw [cntE, hcc, atN_of (nums_count cl m) (by omega)]; omega
  have hcs : cellsN (numsM cl m) m.cells.length = m.cells := by
    apply List.ext_getElem?
    intro j
    by_cases hj : j < m.cells.length
    · obtain ⟨c, hc⟩ : ∃ c, m.cells[j]? = some c := ⟨m.cells[j], by simp [hj]⟩
      obtain ⟨q1, q2, q3⟩ := R.cells c (List.mem_of_getElem? hc)
      have hn := nameV_lt q3
      have n0 := nums_cell cl m j 0 (by omega) hj
      have n1 := nums_cell cl m j 1 (by omega) hj
      rw [hc] at n0 n1
      have b0 : atN (numsM cl m) (7 + 2 * j) = c.node := atN_int (by simpa [numC] using n0) q1 (by omega)
      have b1 : atN (numsM cl m) (8 + 2 * j) = nameV c.change := atN_int (by rw [show 8 + 2 * j = 7 + (2 * j + 1) by omega]; simpa [numC] using n1) hn.1 (by omega)
      rw [hc, cellsN, List.getElem?_map, List.getElem?_range hj]
      simp only [Option.map_some, cellN, b0, b1, viewN_name q3]
    · rw [List.getElem?_eq_none (by simp [cellsN]; omega), List.getElem?_eq_none (by omega)]
  have hbs : bookN (numsM cl m) m.book.length = m.book.map (cleanE cl) := by
    apply List.ext_getElem?
    intro j
    by_cases hj : j < m.book.length
    · obtain ⟨c, hc⟩ : ∃ c, m.book[j]? = some c := ⟨m.book[j], by simp [hj]⟩
      obtain ⟨q1, q2, q3⟩ := R.book c (List.mem_of_getElem? hc)
      have q4 := rightT_of q3
      have n0 := nums_entry cl m j 0 (by omega)
      have n1 := nums_entry cl m j 1 (by omega)
      have n2 := nums_entry cl m j 2 (by omega)
      have n3 := nums_entry cl m j 3 (by omega)
      rw [hc] at n0 n1 n2 n3
      have hp : posE (numsM cl m) = 8 + 2 * m.cells.length := by rw [posE, hcc]
      have b0 : atN (numsM cl m) (8 + 2 * m.cells.length + 4 * j) = c.key := atN_int (by simpa [numE] using n0) q1 (by omega)
      have b1 : atN (numsM cl m) (8 + 2 * m.cells.length + 4 * j + 1) = c.tag.num := atN_int (by rw [Nat.add_assoc]; simpa [numE] using n1) q4.1 (by omega)
      have b2 : atN (numsM cl m) (8 + 2 * m.cells.length + 4 * j + 2) = c.tag.node := atN_int (by rw [Nat.add_assoc]; simpa [numE] using n2) q4.2.2.1 (by omega)
      have b3 : (numsM cl m)[8 + 2 * m.cells.length + 4 * j + 3]? = some (cl c.value) := by rw [Nat.add_assoc]; simpa [numE] using n3
      rw [bookN, List.getElem?_map, List.getElem?_range hj, List.getElem?_map, hc]
      simp only [Option.map_some, entryN, hp, b0, b1, b2, b3, Option.getD_some, cleanE]
    · rw [List.getElem?_eq_none (by simp [bookN]; omega), List.getElem?_eq_none (by simp; omega)]
  simp only [msgN, a0, a1, a2, a3, a4, a5, hcc, hce, hcs, hbs, viewN_name R.view, cleanM]
end Go.Proofs.Ytbgifnlaaophcaa

/- Plain laws: the two readers answer alike. No condition. -/
set_option linter.unusedSimpArgs false
set_option linter.unusedVariables false
namespace Go.Proofs.Ytbgifnlaaophcaa
open Go Go.Proofs

theorem nums_lt {cl : Nat → Nat} {m : PMsg} (R : RightM m) (hf : ∀ x ∈ m.book, cl x.value < 18446744073709551616) : ∀ n ∈ numsM cl m, n < 18446744073709551616 := by
  have hk := R.kind; have hfr := R.frm; have ht := R.to; have hi := R.inc; have hs := R.seq; have hv := nameV_lt R.view
  have hcl := R.clen; have hbl := R.blen
  intro n hn
  simp only [numsM, List.mem_append, List.mem_map, List.mem_flatMap, List.mem_singleton] at hn
  rcases hn with ((⟨x, hx, rfl⟩ | ⟨c, hc, x, hx, rfl⟩) | rfl) | ⟨e, he, hx⟩
  · simp only [headN, List.mem_cons, List.not_mem_nil, or_false] at hx
    omega
  · obtain ⟨c1, c2, c3⟩ := R.cells c hc
    have := nameV_lt c3
    simp only [numC, List.mem_cons, List.not_mem_nil, or_false] at hx
    omega
  · omega
  · obtain ⟨c1, c2, c3⟩ := R.book e he
    have := rightT_of c3
    have hb := hf e he
    simp only [numE, List.mem_cons, List.not_mem_nil, or_false] at hx
    omega
theorem nums_length {cl : Nat → Nat} {m : PMsg} (R : RightM m) : (numsM cl m).length ≤ 60 := by
  have hcl := R.clen; have hbl := R.blen
  have hb : ∀ l : List PEntry, (l.flatMap (numE cl)).length = 4 * l.length := fun l => by
    induction l with
    | nil => rfl
    | cons c l ih => rw [List.flatMap_cons, List.length_append, ih]; simp [numE]; omega
  rw [nums_split, List.length_append, List.length_append, List.length_append, nums_cells_len, hb]
  simp [headN]
  omega
theorem rdL_mem {β : Type} (f : Rd → β × Rd) : ∀ (k : Nat) (r : Rd), ∀ x ∈ (rdL f k r).1, ∃ r', x = (f r').1
  | 0, r, x, h => by simp [rdL] at h
  | k + 1, r, x, h => by
    simp only [rdL, List.mem_append, List.mem_singleton] at h
    rcases h with h | rfl
    · exact rdL_mem f k r x h
    · exact ⟨_, rfl⟩
theorem read_fit {cl : Nat → Nat} (hlt : ∀ b, b < 18446744073709551616 → cl b < 18446744073709551616) {f : List UInt8} {m : PMsg} (h : readF cl f = some m) : ∀ x ∈ m.book, x.value < 18446744073709551616 := by
  unfold readF at h
  cases ho : openF f with
  | none => rw [ho] at h; simp at h
  | some b =>
    rw [ho] at h
    simp only at h
    by_cases hc : (rdEs cl (b, false)).2.2 = true ∨ 0 < (rdEs cl (b, false)).2.1.length ∨ rightM (rdMsg cl (b, false)) = false
    · rw [if_pos hc] at h; simp at h
    · rw [if_neg hc] at h
      obtain rfl := Option.some.inj h
      intro x hx
      obtain ⟨r', rfl⟩ := rdL_mem (rdEntry cl) _ _ x hx
      exact hlt _ (rdBits_len _).2
theorem nums_clean {cl : Nat → Nat} (hcl : ∀ b, cl (cl b) = cl b) (m : PMsg) : numsM cl (cleanM cl m) = numsM cl m := by
  have : ∀ l : List PEntry, (l.map (cleanE cl)).flatMap (numE cl) = l.flatMap (numE cl) := fun l => by
    induction l with
    | nil => rfl
    | cons c l ih => rw [List.map_cons, List.flatMap_cons, List.flatMap_cons, ih]; simp [numE, cleanE, hcl]
  rw [nums_split, nums_split]
  simp only [cleanM, this, List.length_map]
  rfl
theorem readN_eq {cl : Nat → Nat} (hcl : ∀ b, cl (cl b) = cl b) (hlt : ∀ b, b < 18446744073709551616 → cl b < 18446744073709551616) (f : List UInt8) : readN cl f = readF cl f := by
  cases hF : readF cl f with
  | some m =>
    obtain ⟨hr, hfr⟩ := read_some hcl hF
    have hfit := fun x hx => hlt _ (read_fit hlt hF x hx)
    have R := rightM_of hr
    have h1 := read_frame hcl hr hfit
    rw [hfr, hF] at h1
    have h2 : openF f = some (forms (numsM cl m)) := by rw [← hfr, frameF, openF_seal]
    have h3 := getsF_forms 60 (numsM cl m) (nums_lt R hfit) (nums_length R)
    have h4 : rightM (cleanM cl m) = true ∧ frameF cl (cleanM cl m) = f := ⟨by rw [rightM_clean]; exact hr, by rw [← hfr, frameF, frameF, nums_clean hcl]⟩
    unfold readN
    simp only [h2, h3, msgN_nums hr, if_pos h4]
    exact h1.symm
  | none =>
    unfold readN
    cases ho : openF f with
    | none => rfl
    | some b =>
      simp only
      cases hg : getsF 60 b with
      | none => rfl
      | some ns =>
        simp only
        by_cases hc : rightM (msgN ns) = true ∧ frameF cl (msgN ns) = f
        · exfalso
          have hfit : ∀ x ∈ (msgN ns).book, x.value < 18446744073709551616 := by
            intro x hx
            simp only [msgN, bookN, List.mem_map] at hx
            obtain ⟨j, _, rfl⟩ := hx
            simp only [entryN]
            cases hq : ns[posE ns + 4 * j + 3]? with
            | none => simp
            | some v => simpa using getsF_lt 60 b ns hg v (List.mem_of_getElem? hq)
          have := read_frame hcl hc.1 (fun x hx => hlt _ (hfit x hx))
          rw [hc.2, hF] at this
          simp at this
        · rw [if_neg hc]
end Go.Proofs.Ytbgifnlaaophcaa

/- Contracts: messages are read, told otherwise. No condition. -/
set_option linter.unusedSimpArgs false
set_option linter.unusedVariables false
set_option maxRecDepth 10000
namespace Go.Proofs.Ytbgifnlaaophcaa
open Go Go.Rw Go.Proofs
-- a goal is never to be run by the elaborator
attribute [local irreducible] awp aops aop aopsE aeff

theorem at_spec (ns : List Nat) (i : Nat) : ASpec Try.prog 69 [.sl .no (eU ns), eI i] (· = eI (atN ns i)) := by
  refine ASpec.of_awp Try.func69 (by kernel_rfl) rfl (by rw [Try.results69]) Try.ntmps69 ?_
  by_cases h1 : i < ns.length
  · obtain ⟨n, hn⟩ : ∃ n, ns[i]? = some n := ⟨ns[i], by simp [h1]⟩
    have h1' : ¬ (ns.length : Int) ≤ i := by omega
    by_cases h2 : 1099511627776 < n
    · have h2' : (1099511627776 : Int) < n := by omega
      simp -implicitDefEqProofs [h1', hn, encU, h2', atN]
      intro _ _
      omega
    · have h2' : ¬ (1099511627776 : Int) < n := by omega
      have w : IntKind.i64.wrap (n : Int) = n := w64 (by omega) (by omega)
      simp -implicitDefEqProofs [h1', hn, encU, h2', w, atN]
      try (intro _; simp -implicitDefEqProofs [h1', hn, encU, h2, h2', w, atN])
  · have h1' : (ns.length : Int) ≤ i := by omega
    have hn : ns[i]? = none := by simp; omega
    simp -implicitDefEqProofs [h1, h1', hn, atN]
end Go.Proofs.Ytbgifnlaaophcaa

/- Contracts: messages are read, told otherwise. No condition. -/
set_option linter.unusedSimpArgs false
set_option linter.unusedVariables false
set_option maxRecDepth 10000
namespace Go.Proofs.Ytbgifnlaaophcaa
open Go Go.Rw Go.Proofs
-- a goal is never to be run by the elaborator
attribute [local irreducible] awp aops aop aopsE aeff

def rowsIn (x : AV) : Nat := match x with | .sl _ rows => rows.length | _ => 0
@[simp] theorem rowsIn_sl (tag : Tag) (rows : List (List AV)) : rowsIn (.sl tag rows) = rows.length := rfl
theorem getsF_nil (k : Nat) : getsF k [] = some [] := by cases k <;> simp [getsF]
theorem getsF_none (k : Nat) {x : UInt8} {l : List UInt8} (h : getF (x :: l) = none) : getsF (k + 1) (x :: l) = none := by simp [getsF, h]
theorem getsF_some (k : Nat) {x : UInt8} {l r : List UInt8} {n : Nat} (h : getF (x :: l) = some (n, r)) : getsF (k + 1) (x :: l) = (getsF k r).map (n :: ·) := by simp [getsF, h]
theorem namedA_view (n : Int) : ∃ c : Int, namedA n = .tup [.agg (eV (viewN n)), eI c] := by
  unfold namedA viewN
  by_cases h : 0 ≤ n ∧ n < 4096
  · rw [if_pos h, if_pos h]; exact ⟨0, rfl⟩
  · rw [if_neg h, if_neg h]; exact ⟨41, rfl⟩
def R11I (f body : List UInt8) (b : Nat) (t : Nat → AV) (h : Nat → Option (List AV)) : Prop := ∃ (rest : List UInt8) (cur : List Nat) (tag : Tag), t 0 = .sl .no (eB f) ∧ t 2 = .ptr b 0 ∧ t 4 = .sl .no (eB rest) ∧ t 6 = .sl tag (eU cur) ∧ appOK tag 102 1 ∧
  h b = some (eMt .nil .nil zM) ∧ cur.length ≤ 60 ∧ rest.length ≤ body.length ∧ getsF 60 body = (getsF (60 - cur.length) rest).map (cur ++ ·)
def R11M (f body : List UInt8) (b : Nat) (t : Nat → AV) (h : Nat → Option (List AV)) : Prop := ∃ (cur : List Nat) (tag : Tag), t 0 = .sl .no (eB f) ∧ t 2 = .ptr b 0 ∧ t 6 = .sl tag (eU cur) ∧
  h b = some (eMt .nil .nil zM) ∧ cur.length ≤ 60 ∧ getsF 60 body = some cur
def msgK (cur : List Nat) (k j : Nat) : PMsg := ⟨atN cur 0, atN cur 1, atN cur 2, atN cur 3, atN cur 4, viewN (atN cur 5), cellsN cur k, bookN cur j⟩
def R11C (f : List UInt8) (cur : List Nat) (b bm : Nat) (tag : Tag) (t : Nat → AV) (h : Nat → Option (List AV)) : Prop := ∃ (k : Nat) (tc : Tag), t 0 = .sl .no (eB f) ∧ t 2 = .ptr b 0 ∧ t 6 = .sl tag (eU cur) ∧ t 10 = .ptr bm 0 ∧ t 11 = eI (7 + 2 * k) ∧ t 12 = eI k ∧
  h b = some (eMt .nil .nil zM) ∧ h bm = some (eMt tc .nil (msgK cur k 0)) ∧ appOK tc 47 3 ∧ k ≤ cntC cur
def R11D (f : List UInt8) (cur : List Nat) (b bm : Nat) (tag : Tag) (t : Nat → AV) (h : Nat → Option (List AV)) : Prop := ∃ (tc : Tag), t 0 = .sl .no (eB f) ∧ t 2 = .ptr b 0 ∧ t 6 = .sl tag (eU cur) ∧ t 10 = .ptr bm 0 ∧ t 11 = eI (7 + 2 * cntC cur) ∧
  h b = some (eMt .nil .nil zM) ∧ h bm = some (eMt tc .nil (msgK cur (cntC cur) 0))
theorem cellsN_succ (cur : List Nat) (k : Nat) : cellsN cur (k + 1) = cellsN cur k ++ [cellN cur k] := by simp [cellsN, List.range_succ]
theorem bookN_succ (cur : List Nat) (k : Nat) : bookN cur (k + 1) = bookN cur k ++ [entryN cur (posE cur + 4 * k)] := by simp [bookN, List.range_succ]
def R11E (f : List UInt8) (cur : List Nat) (b bm : Nat) (tag : Tag) (t : Nat → AV) (h : Nat → Option (List AV)) : Prop := ∃ (j : Nat) (tc te : Tag), t 0 = .sl .no (eB f) ∧ t 2 = .ptr b 0 ∧ t 6 = .sl tag (eU cur) ∧ t 10 = .ptr bm 0 ∧ t 11 = eI (posE cur + 4 * j : Nat) ∧ t 15 = eI (atN cur (7 + 2 * cntC cur)) ∧ t 16 = eI j ∧
  h b = some (eMt .nil .nil zM) ∧ h bm = some (eMt tc te (msgK cur (cntC cur) j)) ∧ appOK te 52 4 ∧ j ≤ cntE cur
def R11G (f : List UInt8) (cur : List Nat) (b bm b3 : Nat) (tag : Tag) (j : Nat) (t : Nat → AV) (h : Nat → Option (List AV)) : Prop := ∃ (tc te : Tag), t 0 = .sl .no (eB f) ∧ t 2 = .ptr b 0 ∧ t 6 = .sl tag (eU cur) ∧ t 10 = .ptr bm 0 ∧ t 11 = eI (posE cur + 4 * j : Nat) ∧ t 15 = eI (atN cur (7 + 2 * cntC cur)) ∧ t 16 = eI j ∧ t 17 = .ptr b3 0 ∧
          h b = some (eMt .nil .nil zM) ∧ h bm = some (eMt tc te (msgK cur (cntC cur) j)) ∧ appOK te 52 4 ∧ h b3 = some (eE (entryN cur (posE cur + 4 * j)))
def R11F (f : List UInt8) (cur : List Nat) (b bm : Nat) (t : Nat → AV) (h : Nat → Option (List AV)) : Prop := ∃ (tc te : Tag), t 0 = .sl .no (eB f) ∧ t 2 = .ptr b 0 ∧ t 10 = .ptr bm 0 ∧
  h b = some (eMt .nil .nil zM) ∧ h bm = some (eMt tc te (msgN cur))
theorem read11_spec (f : List UInt8) (hf : f.length ≤ 140737488355328) : ASpec Try.prog 21 [.sl .no (eB f)] (· = readA (readN bitsF f)) := by
  refine ASpec.of_awp Try.func21 (by kernel_rfl) rfl (by rw [Try.results21]) Try.ntmps21 ?_
  simp -implicitDefEqProofs
  refine allocK.intro (fun b hb => ?_)
  simp -implicitDefEqProofs
  refine CallK.eq (open3_spec f hf) ?_
  cases ho : openF f with
  | none => simp -implicitDefEqProofs [openA, readN, ho, readA, eM]
  | some body =>
    have hl := openF_len ho
    simp -implicitDefEqProofs [openA]
    refine loopK.post (R11I f body b) (fun t => 60 - rowsIn (t 6)) (R11M f body b) ?_ ?_ ?_
    · refine ⟨body, [], .full, by simp, by simp, by simp, by simp, by simp, by simp [eMt, zM], by simp, by omega, ?_⟩
      simp
    · rintro t hh ⟨rest, cur, tag, g0, g2, g4, g6, gt, gb, hc, hrl, he⟩
      cases rest with
      | nil =>
        simp -implicitDefEqProofs [g4, g6]
        exact ⟨cur, tag, by simp [g0], by simp [g2], by simp [g6], gb, hc, by rw [he, getsF_nil]; simp⟩
      | cons x l =>
        have p1 : ¬ (l.length : Int) + 1 ≤ 0 := by omega
        have p2 : (0 : Int) < (l.length : Int) + 1 := by omega
        by_cases h60 : cur.length < 60
        · have h60' : (cur.length : Int) < 60 := by omega
          simp -implicitDefEqProofs [g4, g6, p1, p2, h60']
          intro _ _
          refine CallK.eq (get2_spec (x :: l) (by omega)) ?_
          have hk : 60 - cur.length = (60 - (cur.length + 1)) + 1 := by omega
          cases hg : getF (x :: l) with
          | none =>
            rw [hk, getsF_none _ hg] at he
            have hn : readN bitsF f = none := by
              unfold readN
              simp only [ho, he, Option.map_none]
            simp -implicitDefEqProofs [getA, g2, gb, hn, readA, eM, eMt, zM]
          | some p =>
            obtain ⟨n, r⟩ := p
            have hr := (getF_len hg).1
            rw [hk, getsF_some _ hg] at he
            simp -implicitDefEqProofs [getA, g6, gt]
            have hone : eU cur ++ [[AV.v (.int .u64 n)]] = eU (cur ++ [n]) := by simp [eU, encU]
            rw [hone]
            refine ⟨by omega, ⟨r, cur ++ [n], appTag tag 102 1 [[AV.v (.int .u64 n)]], by simp [g0], by simp [g2], by simp, by simp, by simp [gt], gb, by rw [List.length_append, List.length_singleton]; omega, by omega, ?_⟩, ?_⟩
            rotate_left
            · omega
            rw [he]
            simp [Function.comp_def]
        · have h60' : ¬ (cur.length : Int) < 60 := by omega
          simp -implicitDefEqProofs [g4, g6, p1, p2, h60']
          intro _ _
          have hk : 60 - cur.length = 0 := by omega
          exact ⟨cur, tag, by simp [g0], by simp [g2], by simp [g6], gb, hc, by rw [he, hk]; simp [getsF]⟩
    rintro t hh ⟨cur, tag, g0, g2, g6, gb, hc, he⟩
    simp -implicitDefEqProofs [g6]
    refine CallK.with (at_spec cur 0) (by simp) ?_
    simp -implicitDefEqProofs [g6]
    refine CallK.with (at_spec cur 1) (by simp) ?_
    simp -implicitDefEqProofs [g6]
    refine CallK.with (at_spec cur 2) (by simp) ?_
    simp -implicitDefEqProofs [g6]
    refine CallK.with (at_spec cur 3) (by simp) ?_
    simp -implicitDefEqProofs [g6]
    refine CallK.with (at_spec cur 4) (by simp) ?_
    simp -implicitDefEqProofs [g6]
    refine allocK.intro (fun bm hbm => ?_)
    have h1 : ¬ b = bm := by rintro rfl; rw [gb] at hbm; simp at hbm
    have h1' : ¬ bm = b := fun h => h1 h.symm
    simp -implicitDefEqProofs [g6, h1, h1']
    refine CallK.with (at_spec cur 5) (by simp) ?_
    simp -implicitDefEqProofs [g6, h1, h1']
    refine CallK.eq (named4_spec (atN cur 5)) ?_
    obtain ⟨c5, hc5⟩ := namedA_view (atN cur 5)
    rw [hc5]
    simp -implicitDefEqProofs [g6, h1, h1', eV]
    refine loopK.post (R11C f cur b bm tag) (fun t => 6 - natOf (t 12)) (R11D f cur b bm tag) ?_ ?_ ?_
    · exact ⟨0, .nil, by simp [g0], by simp [g2], by simp [g6], by simp, by simp, by simp, by simp [h1, h1', gb], by simp [eMt, msgK, cellsN, bookN], by simp, by omega⟩
    · rintro t hh ⟨k, tc, q0, q2, q6, q10, q11, q12, qb, qbm, qt, hk⟩
      have hk6 : cntC cur ≤ 6 := by unfold cntC; omega
      by_cases hlt : k < cntC cur
      · have a1 : (k : Int) < atN cur 6 := by unfold cntC at hlt; omega
        have a2 : (k : Int) < 6 := by unfold cntC at hlt; omega
        have w1 : IntKind.i64.wrap (7 + 2 * (k : Int) + 1) = ((8 + 2 * k : Nat) : Int) := by rw [w64 (by omega) (by omega)]; omega
        have w2 : IntKind.i64.wrap (7 + 2 * (k : Int) + 2) = ((7 + 2 * (k + 1) : Nat) : Int) := by rw [w64 (by omega) (by omega)]; omega
        have w3 : IntKind.i64.wrap ((k : Int) + 1) = ((k + 1 : Nat) : Int) := by rw [w64 (by omega) (by omega)]; omega
        simp -implicitDefEqProofs [q12, q6]
        refine CallK.with (at_spec cur 6) (by simp) ?_
        simp -implicitDefEqProofs [q12, a1, a2, q6, q11, w1]
        refine CallK.with (at_spec cur (8 + 2 * k)) (by simp) ?_
        simp -implicitDefEqProofs
        refine CallK.eq (named4_spec (atN cur (8 + 2 * k))) ?_
        obtain ⟨c6, hc6⟩ := namedA_view (atN cur (8 + 2 * k))
        rw [hc6]
        simp -implicitDefEqProofs [eV]
        refine allocK.intro (fun b3 hb3 => ?_)
        have n1 : ¬ b = b3 := by rintro rfl; rw [qb] at hb3; simp at hb3
        have n1' : ¬ b3 = b := fun h => n1 h.symm
        have n2 : ¬ bm = b3 := by rintro rfl; rw [qbm] at hb3; simp at hb3
        have n2' : ¬ b3 = bm := fun h => n2 h.symm
        simp -implicitDefEqProofs [n1, n1', n2, n2']
        refine regionK.intro 9 follows_mixed (by kernel_rfl) ?_
        simp -implicitDefEqProofs [q10, q6, q11, n1, n1', n2, n2', qbm, eMt, qt]
        refine CallQ.with (at_spec cur (7 + 2 * k)) (by simp) ?_
        simp -implicitDefEqProofs [q10, q6, q11, q12, n1, n1', n2, n2', qbm, eMt, qt, w2, w3]
        have hl : (msgK cur k 0).cells.length = k := by simp [msgK, cellsN]
        refine ⟨by omega, ⟨k + 1, appTag tc 47 3 [eC (cellN cur k)], by simp [q0], by simp [q2], by simp [q6], by simp [q10], by simp, by simp, by simp [n1, n2, qb, h1, h1'], ?_, by simp [qt], by omega⟩, by omega⟩
        simp [eMt, msgK, cellsN_succ, eCs, eC, cellN, h1, h1', n2, n2']
      · by_cases hc : (k : Int) < atN cur 6
        · have a2 : ¬ (k : Int) < 6 := by unfold cntC at hlt; omega
          simp -implicitDefEqProofs [q12, q6]
          refine CallK.with (at_spec cur 6) (by simp) ?_
          simp -implicitDefEqProofs [q12, hc, a2, q6, q11]
          have hk' : k = cntC cur := by omega
          subst hk'
          exact ⟨tc, by simp [q0], by simp [q2], by simp [q6], by simp [q10], by simp [q11], qb, qbm⟩
        · simp -implicitDefEqProofs [q12, q6]
          refine CallK.with (at_spec cur 6) (by simp) ?_
          simp -implicitDefEqProofs [q12, hc, q6, q11]
          have hk' : k = cntC cur := by unfold cntC at hlt hk ⊢; omega
          subst hk'
          exact ⟨tc, by simp [q0], by simp [q2], by simp [q6], by simp [q10], by simp [q11], qb, qbm⟩
    rintro t hh ⟨tc, q0, q2, q6, q10, q11, qb, qbm⟩
    have hk6 : cntC cur ≤ 6 := by unfold cntC; omega
    have w1 : IntKind.i64.wrap (7 + 2 * ((cntC cur : Nat) : Int) + 1) = ((posE cur : Nat) : Int) := by rw [w64 (by omega) (by omega)]; unfold posE; omega
    simp -implicitDefEqProofs [q6, q11]
    refine CallK.with (at_spec cur (7 + 2 * cntC cur)) (by simp) ?_
    simp -implicitDefEqProofs [q6, q11, w1]
    refine loopK.post (R11E f cur b bm tag) (fun t => 4 - natOf (t 16)) (R11F f cur b bm) ?_ ?_ ?_
    · exact ⟨0, tc, .nil, by simp [q0], by simp [q2], by simp [q6], by simp [q10], by simp, by simp, by simp, qb, qbm, by simp, by omega⟩
    · clear q0 q2 q6 q10 q11 qb qbm
      rintro t hh ⟨j, tc, te, q0, q2, q6, q10, q11, q15, q16, qb, qbm, qt, hj⟩
      have hp : posE cur ≤ 20 := by unfold posE; omega
      have hj4 : cntE cur ≤ 4 := by unfold cntE; omega
      by_cases hlt : j < cntE cur
      · have a1 : (j : Int) < atN cur (7 + 2 * cntC cur) := by unfold cntE at hlt; omega
        have a2 : (j : Int) < 4 := by unfold cntE at hlt; omega
        have w2 : IntKind.i64.wrap (((posE cur : Nat) : Int) + 4 * (j : Int) + 1) = ((posE cur + 4 * j + 1 : Nat) : Int) := by rw [w64 (by omega) (by omega)]; omega
        have w3 : IntKind.i64.wrap (((posE cur : Nat) : Int) + 4 * (j : Int) + 2) = ((posE cur + 4 * j + 2 : Nat) : Int) := by rw [w64 (by omega) (by omega)]; omega
        have w4 : IntKind.i64.wrap (((posE cur : Nat) : Int) + 4 * (j : Int) + 3) = ((posE cur + 4 * j + 3 : Nat) : Int) := by rw [w64 (by omega) (by omega)]; omega
        have w5 : IntKind.i64.wrap (((posE cur : Nat) : Int) + 4 * (j : Int) + 4) = ((posE cur + 4 * (j + 1) : Nat) : Int) := by rw [w64 (by omega) (by omega)]; omega
        have w6 : IntKind.i64.wrap ((j : Int) + 1) = ((j + 1 : Nat) : Int) := by rw [w64 (by omega) (by omega)]; omega
        simp -implicitDefEqProofs [q15, q16, q6, q11, a1, a2]
        refine CallK.with (at_spec cur (posE cur + 4 * j)) (by simp) ?_
        simp -implicitDefEqProofs [q6, q11, w2]
        refine CallK.with (at_spec cur (posE cur + 4 * j + 1)) (by simp) ?_
        simp -implicitDefEqProofs [q6, q11, w3]
        refine CallK.with (at_spec cur (posE cur + 4 * j + 2)) (by simp) ?_
        simp -implicitDefEqProofs [q6, q11]
        refine allocK.intro (fun b3 hb3 => ?_)
        have n1 : ¬ b = b3 := by rintro rfl; rw [qb] at hb3; simp at hb3
        have n1' : ¬ b3 = b := fun h => n1 h.symm
        have n2 : ¬ bm = b3 := by rintro rfl; rw [qbm] at hb3; simp at hb3
        have n2' : ¬ b3 = bm := fun h => n2 h.symm
        simp -implicitDefEqProofs [q6, q11, n1, n1', n2, n2', w4]
        intro _
        have hm : natOf (t 16) = j := by rw [q16]; simp
        refine branch_join (R11G f cur b bm b3 tag j) ?_ ?_ ?_
        · intro hd
          have h3 : posE cur + 4 * j + 3 < cur.length := by have := of_decide_eq_true hd; omega
          obtain ⟨x, hx⟩ : ∃ x, cur[posE cur + 4 * j + 3]? = some x := ⟨cur[posE cur + 4 * j + 3], by simp [h3]⟩
          have p1 : (0 : Int) ≤ ((posE cur : Nat) : Int) + 4 * (j : Int) + 3 := by omega
          have p2 : (((posE cur : Nat) : Int) + 4 * (j : Int) + 3).toNat = posE cur + 4 * j + 3 := by omega
          simp -implicitDefEqProofs [q6, q11, w4, p1, p2, hx, encU]
          refine CallK.eq (f64from_spec x) ?_
          simp -implicitDefEqProofs [eF, n1, n1', n2, n2']
          exact ⟨tc, te, by simp [q0], by simp [q2], by simp [q6], by simp [q10], by simp [q11], by simp [q15], by simp [q16], by simp, by simp [n1, qb], by simp [n2, qbm], qt, by simp [eE, entryN, hx]⟩
        · intro hd
          have h3 : cur.length ≤ posE cur + 4 * j + 3 := by have := of_decide_eq_false hd; omega
          have hx : cur[posE cur + 4 * j + 3]? = none := by simp; omega
          simp -implicitDefEqProofs
          exact ⟨tc, te, by simp [q0], by simp [q2], by simp [q6], by simp [q10], by simp [q11], by simp [q15], by simp [q16], by simp, by simp [n1, qb], by simp [n2, qbm], qt, by simp [eE, entryN, hx]⟩
        · clear q0 q2 q6 q10 q11 q15 q16 qb qbm qt
          rintro t h ⟨tc, te, q0, q2, q6, q10, q11, q15, q16, q17, qb, qbm, qt, qb3⟩
          simp -implicitDefEqProofs [q10, qbm, eMt, q17, qb3, eE, qt, n1, n1', n2, n2', q11, w5, q16, w6]
          have hl : (msgK cur (cntC cur) j).book.length = j := by simp [msgK, bookN]
          refine ⟨by omega, ⟨j + 1, tc, appTag te 52 4 [eE (entryN cur (posE cur + 4 * j))], by simp [q0], by simp [q2], by simp [q6], by simp [q10], by simp, by simp [q15], by simp, by simp [qb, h1, h1'], ?_, by simp, by omega⟩, by omega⟩
          simp [eMt, msgK, bookN_succ, eEs, eE, h1, h1']
      · by_cases hc : (j : Int) < atN cur (7 + 2 * cntC cur)
        · have a2 : ¬ (j : Int) < 4 := by unfold cntE at hlt; omega
          simp -implicitDefEqProofs [q15, q16, hc, a2]
          have hj' : j = cntE cur := by omega
          subst hj'
          exact ⟨tc, te, by simp [q0], by simp [q2], by simp [q10], qb, qbm⟩
        · simp -implicitDefEqProofs [q15, q16, hc]
          have hj' : j = cntE cur := by unfold cntE at hlt hj ⊢; omega
          subst hj'
          exact ⟨tc, te, by simp [q0], by simp [q2], by simp [q10], qb, qbm⟩
    clear q0 q2 q6 q10 q11 qb qbm
    rintro t hh ⟨tc, te, q0, q2, q10, qb, qbm⟩
    have hfit : fitM (msgN cur) := by
      intro x hx
      simp only [msgN, bookN, List.mem_map] at hx
      obtain ⟨j, _, rfl⟩ := hx
      simp only [entryN]
      cases hq : cur[posE cur + 4 * j + 3]? with
      | none => simp
      | some v => simpa using getsF_lt 60 body cur he v (List.mem_of_getElem? hq)
    simp -implicitDefEqProofs [q10, qbm, eMt]
    refine CallK.with (frame11_spec (msgN cur) hfit) (by simp [eM]) ?_
    have hn : readN bitsF f = if rightM (msgN cur) = true ∧ frameF bitsF (msgN cur) = f then some (msgN cur) else none := by
      unfold readN
      simp only [ho, he]
    cases hr : rightM (msgN cur)
    · rw [hr] at hn
      simp -implicitDefEqProofs [frameA, q0, q2, qb, eMt, zM, hn, readA, eM]
    · rw [hr] at hn
      by_cases hff : frameF bitsF (msgN cur) = f
      · rw [if_pos ⟨rfl, hff⟩] at hn
        simp -implicitDefEqProofs [frameA, q0, q2, qb, q10, qbm, eMt, zM, hff, hn, readA, eM]
      · rw [if_neg (fun h => hff h.2)] at hn
        simp -implicitDefEqProofs [frameA, q0, q2, qb, q10, qbm, eMt, zM, hff, hn, readA, eM]
end Go.Proofs.Ytbgifnlaaophcaa

/- Contracts: a copy that may be written over. No condition. -/
set_option linter.unusedSimpArgs false
set_option linter.unusedVariables false
set_option maxRecDepth 10000
namespace Go.Proofs.Ytbgifnlaaophcaa
open Go Go.Rw Go.Proofs
-- a goal is never to be run by the elaborator
attribute [local irreducible] awp aops aop aopsE aeff

theorem clone_cells_new (l : List PCell) (hl : l.length * 24 ≤ 140737488355328) : ASpec Try.prog 90 [.sl .no (eCs l)] (New 47 3 (eCs l)) := by
  refine ASpec.of_awp Try.func90 (by kernel_rfl) rfl (by rw [Try.results90]) Try.ntmps90 ?_
  simp -implicitDefEqProofs
  refine nilK.intro (fun h => ?_) ?_
  · simp -implicitDefEqProofs [h]; exact .inl ⟨rfl, _, by simp, rfl⟩
  · simp -implicitDefEqProofs [hl]
    by_cases h : l = []
    · subst h; exact .inl ⟨rfl, _, by simp, rfl⟩
    · have h' : eCs l ≠ [] := by simpa [eCs] using h
      exact .inr ⟨h', by rw [appTag_full h']⟩
theorem clone_entries_new (l : List PEntry) (hl : l.length * 32 ≤ 140737488355328) : ASpec Try.prog 91 [.sl .no (eEs l)] (New 52 4 (eEs l)) := by
  refine ASpec.of_awp Try.func91 (by kernel_rfl) rfl (by rw [Try.results91]) Try.ntmps91 ?_
  simp -implicitDefEqProofs
  refine nilK.intro (fun h => ?_) ?_
  · simp -implicitDefEqProofs [h]; exact .inl ⟨rfl, _, by simp, rfl⟩
  · simp -implicitDefEqProofs [hl]
    by_cases h : l = []
    · subst h; exact .inl ⟨rfl, _, by simp, rfl⟩
    · have h' : eEs l ≠ [] := by simpa [eEs] using h
      exact .inr ⟨h', by rw [appTag_full h']⟩

theorem one_self (b : Nat) (c : List AV) : one b c b = some c := by simp [one_apply]
theorem upd_self {α : Type} (f : Nat → α) (b : Nat) (c : α) : upd f b c b = c := by simp [upd]
theorem upd_ne {α : Type} (f : Nat → α) {b k : Nat} (h : ¬ k = b) (c : α) : upd f b c k = f k := by simp [upd, h]
/-- a slice of one's own, so long -/
def OwnB (x : AV) (n sz : Nat) (h : Nat → Option (List AV)) : Prop := (n = 0 ∧ x = .sl .no []) ∨ ∃ b c cells, x = .sm b 0 n c ∧ h b = some cells ∧ n * sz ≤ cells.length
theorem eCs_flat (l : List PCell) : (eCs l).flatten.length = l.length * 3 := by simpa using flatten_length (eCs_one l)
theorem eEs_flat (l : List PEntry) : (eEs l).flatten.length = l.length * 4 := by simpa using flatten_length (eEs_one l)
/-- its object is not one of those that were there -/
def ObNe (x : AV) (b : Nat) : Prop := ∀ b' o n c, x = .sm b' o n c → ¬ b' = b
theorem ob_into {x : AV} {n sz : Nat} {H h' : Nat → Option (List AV)} (ho : OwnB x n sz h') (hn : ∀ b c, h' b = some c → H b = some c) : OwnB x n sz H := by
  rcases ho with ho | ⟨b', cc, cells, h1, h2, h3⟩
  · exact .inl ho
  · exact .inr ⟨b', cc, cells, h1, hn _ _ h2, h3⟩
theorem ob_ne {x : AV} {n sz : Nat} {H h' : Nat → Option (List AV)} (ho : OwnB x n sz h') (hf : ∀ b c, h' b = some c → H b = none) {b : Nat} {c : List AV} (hb : H b = some c) : ObNe x b := by
  intro b' o n' c' hx hbb
  subst hbb
  rcases ho with ⟨_, ho⟩ | ⟨b2, cc, cells, h1, h2, h3⟩
  · rw [hx] at ho; simp at ho
  · rw [hx] at h1
    injection h1 with e1 e2 e3 e4
    subst e1
    have := hf _ _ h2
    rw [hb] at this; simp at this
def CopyR (m : PMsg) (r : AV) (h' : Nat → Option (List AV)) : Prop := ∃ x1 x2, r = .agg [eI m.kind, eI m.frm, eI m.to, eI m.inc, eI m.seq, eI m.view.add, eI m.view.del, x1, x2] ∧ OwnB x1 m.cells.length 3 h' ∧ OwnB x2 m.book.length 4 h'
theorem copy_own (m : PMsg) (h1 : m.cells.length * 24 ≤ 140737488355328) (h2 : m.book.length * 32 ≤ 140737488355328) :
    MSpec Try.prog 29 [.agg (eM m)] (fun _ => none) (CopyR m) := by
  refine MSpec.of_awp Try.func29 (by kernel_rfl) rfl (by rw [Try.results29]) Try.ntmps29 ?_
  simp -implicitDefEqProofs [eM]
  refine allocK.intro (fun b hb => ?_)
  simp -implicitDefEqProofs
  refine allocK.intro (fun b2 hb2 => ?_)
  have hbb : ¬ b = b2 := by rintro rfl; simp at hb2
  have hbb' : ¬ b2 = b := fun h => hbb h.symm
  simp -implicitDefEqProofs [hbb, hbb']
  have fc := eCs_flat m.cells
  have fe := eEs_flat m.book
  refine CallK.thaw (clone_cells_new m.cells h1) rfl ?_
  rintro r (⟨h0, tag, htag, rfl⟩ | ⟨hne, rfl⟩)
  · left
    have hl0 : m.cells = [] := by simpa [eCs] using h0
    simp -implicitDefEqProofs [hbb, hbb']
    refine CallK.thaw (clone_entries_new m.book h2) rfl ?_
    rintro r (⟨h0, tag, htag, rfl⟩ | ⟨hne, rfl⟩)
    · left
      have hl1 : m.book = [] := by simpa [eEs] using h0
      simp -implicitDefEqProofs [hbb, hbb']
      exact ⟨fun _ => none, fun _ _ h => by simp at h, _, _, rfl, .inl ⟨by simp [hl0], rfl⟩, .inl ⟨by simp [hl1], rfl⟩⟩
    · right
      refine ⟨_, _, _, _, rfl, hne, .inl rfl, fun b3 cap spare hb3 hcap hsp => ?_⟩
      have n1 : ¬ b = b3 := by rintro rfl; simp [hbb] at hb3
      have n1' : ¬ b3 = b := fun h => n1 h.symm
      have n2 : ¬ b2 = b3 := by rintro rfl; simp [hbb'] at hb3
      have n2' : ¬ b3 = b2 := fun h => n2 h.symm
      simp -implicitDefEqProofs [hbb, hbb', n1, n1', n2, n2']
      refine ⟨one b3 ((eEs m.book).flatten.map dead1 ++ spare.map AV.v), SubH_one.2 ?_, _, _, rfl, .inl ⟨by simp [hl0], rfl⟩, .inr ⟨b3, cap, _, rfl, one_self _ _, ?_⟩⟩
      · simp [n1', n2', Weak.refl]
      · simp only [List.length_append, List.length_map]; omega
  · right
    refine ⟨_, _, _, _, rfl, hne, .inl rfl, fun b3 cap spare hb3 hcap hsp => ?_⟩
    have n1 : ¬ b = b3 := by rintro rfl; simp [hbb] at hb3
    have n1' : ¬ b3 = b := fun h => n1 h.symm
    have n2 : ¬ b2 = b3 := by rintro rfl; simp [hbb'] at hb3
    have n2' : ¬ b3 = b2 := fun h => n2 h.symm
    simp -implicitDefEqProofs [hbb, hbb', n1, n1', n2, n2']
    refine CallK.thaw (clone_entries_new m.book h2) rfl ?_
    rintro r (⟨h0, tag, htag, rfl⟩ | ⟨hne, rfl⟩)
    · left
      have hl1 : m.book = [] := by simpa [eEs] using h0
      simp -implicitDefEqProofs [hbb, hbb', n1, n1', n2, n2']
      refine ⟨one b3 ((eCs m.cells).flatten.map dead1 ++ spare.map AV.v), SubH_one.2 ?_, _, _, rfl, .inr ⟨b3, cap, _, rfl, one_self _ _, ?_⟩, .inl ⟨by simp [hl1], rfl⟩⟩
      · simp [n1', n2', Weak.refl]
      · simp only [List.length_append, List.length_map]; omega
    · right
      refine ⟨_, _, _, _, rfl, hne, .inl rfl, fun b4 cap4 spare4 hb4 hcap4 hsp4 => ?_⟩
      have m1 : ¬ b = b4 := by rintro rfl; simp [hbb, n1] at hb4
      have m1' : ¬ b4 = b := fun h => m1 h.symm
      have m2 : ¬ b2 = b4 := by rintro rfl; simp [n2, hbb'] at hb4
      have m2' : ¬ b4 = b2 := fun h => m2 h.symm
      have m3 : ¬ b3 = b4 := by rintro rfl; simp [n1, n2, n1', n2'] at hb4
      have m3' : ¬ b4 = b3 := fun h => m3 h.symm
      simp -implicitDefEqProofs [hbb, hbb', n1, n1', n2, n2', m1, m1', m2, m2', m3, m3']
      refine ⟨upd (one b3 ((eCs m.cells).flatten.map dead1 ++ spare.map AV.v)) b4 (some ((eEs m.book).flatten.map dead1 ++ spare4.map AV.v)), fun k c hk => ?_, _, _, rfl, .inr ⟨b3, cap, _, rfl, (upd_ne _ m3 _).trans (one_self _ _), ?_⟩, .inr ⟨b4, cap4, _, rfl, upd_self _ _ _, ?_⟩⟩
      · simp only [upd_apply, one_apply] at hk ⊢
        split at hk
        · rename_i hk4
          subst hk4
          obtain rfl := Option.some.inj hk
          exact ⟨_, by simp [m1', m2'], Weak.refl _⟩
        · split at hk
          · rename_i hk4 hk3
            subst hk3
            obtain rfl := Option.some.inj hk
            exact ⟨_, by simp [n1', n2', m3], Weak.refl _⟩
          · simp at hk
      · simp only [List.length_append, List.length_map]; omega
      · simp only [List.length_append, List.length_map]; omega
end Go.Proofs.Ytbgifnlaaophcaa

/- Records: plain data, and how they lie in Go. No condition. -/
set_option linter.unusedSimpArgs false
set_option linter.unusedVariables false
namespace Go.Proofs.Ytbgifnlaaophcaa
open Go Go.Rw Go.Proofs

structure PRec where
  kind : Int
  view : PView
  cell : PCell
  entry : PEntry
  n : Int
  deriving DecidableEq
def zV : PView := ⟨0, 0⟩
def zC : PCell := ⟨0, ⟨0, 0⟩⟩
def zE : PEntry := ⟨0, ⟨0, 0⟩, 0⟩
def zR : PRec := ⟨0, zV, zC, zE, 0⟩
/-- what its kind has alone -/
def bareR (r : PRec) : PRec :=
  if r.kind = 1 then ⟨1, r.view, zC, r.entry, 0⟩
  else if r.kind = 2 then ⟨2, r.view, r.cell, zE, 0⟩
  else if r.kind = 5 then ⟨5, r.view, ⟨0, r.cell.change⟩, zE, 0⟩
  else if r.kind = 3 then ⟨3, r.view, zC, zE, 0⟩
  else if r.kind = 4 ∨ r.kind = 6 then ⟨r.kind, zV, zC, zE, r.n⟩
  else ⟨r.kind, zV, zC, zE, 0⟩
def sameR (a b : PRec) : Bool := decide (a.kind = b.kind) && (decide (a.view.add = b.view.add) && decide (a.view.del = b.view.del)) && (decide (a.cell.node = b.cell.node) && (decide (a.cell.change.add = b.cell.change.add) && decide (a.cell.change.del = b.cell.change.del))) && decide (a.n = b.n) && sameE a.entry b.entry
def sameRs : List PRec → List PRec → Bool
  | [], [] => true
  | x :: l, y :: m => sameR x y && sameRs l m
  | _, _ => false
/-- the record can be -/
def rightR (r : PRec) : Bool :=
  decide (1 ≤ r.kind ∧ r.kind ≤ 6) && sameR r (bareR r) && rightV r.view && rightV r.cell.change && decide (0 ≤ r.cell.node ∧ r.cell.node < 6) &&
  (if r.kind = 1 then checkE (-1) [r.entry] else if r.kind = 2 ∨ r.kind = 5 then decide (0 < sizeV r.cell.change) else if r.kind = 4 ∨ r.kind = 6 then decide (1 ≤ r.n ∧ r.n ≤ 1000000) else true)
def numsR (r : PRec) : List Nat :=
  if r.kind = 1 then [r.kind.toNat, (nameV r.view).toNat, r.entry.key.toNat, r.entry.tag.num.toNat, r.entry.tag.node.toNat, bitsF r.entry.value]
  else if r.kind = 2 then [r.kind.toNat, (nameV r.view).toNat, r.cell.node.toNat, (nameV r.cell.change).toNat]
  else if r.kind = 5 then [r.kind.toNat, (nameV r.view).toNat, (nameV r.cell.change).toNat]
  else if r.kind = 3 then [r.kind.toNat, (nameV r.view).toNat]
  else [r.kind.toNat, r.n.toNat]
def bodyR (r : PRec) : List UInt8 := sealF (forms (numsR r))
/-- a record's bytes -/
def recB (r : PRec) : List UInt8 := formF (bodyR r).length ++ bodyR r
def bytesR (r : PRec) : Option (List UInt8) := if rightR r = true then some (recB r) else none
def smallN (n : Nat) : Nat := min n 1099511627776
def nmdV (n : Nat) : Option PView := if smallN n < 4096 then some ⟨smallN n / 64, smallN n % 64⟩ else none
/-- the record of its numbers -/
def parseR (ns : List Nat) : Option PRec :=
  match ns with
  | [k, v, a, b, c, x] => if k = 1 then (nmdV v).bind fun w => if bitsF (ofF x) = x ∧ rightR ⟨1, w, zC, ⟨smallN a, ⟨smallN b, smallN c⟩, ofF x⟩, 0⟩ = true then some ⟨1, w, zC, ⟨smallN a, ⟨smallN b, smallN c⟩, ofF x⟩, 0⟩ else none else none
  | [k, v, a, b] => if k = 2 then (nmdV v).bind fun w => (nmdV b).bind fun u => if rightR ⟨2, w, ⟨smallN a, u⟩, zE, 0⟩ = true then some ⟨2, w, ⟨smallN a, u⟩, zE, 0⟩ else none else none
  | [k, v, b] => if k = 5 then (nmdV v).bind fun w => (nmdV b).bind fun u => if rightR ⟨5, w, ⟨0, u⟩, zE, 0⟩ = true then some ⟨5, w, ⟨0, u⟩, zE, 0⟩ else none else none
  | [k, v] => if k = 3 then (nmdV v).bind fun w => if rightR ⟨3, w, zC, zE, 0⟩ = true then some ⟨3, w, zC, zE, 0⟩ else none
    else if k = 4 ∨ k = 6 then (if rightR ⟨k, zV, zC, zE, smallN v⟩ = true then some ⟨k, zV, zC, zE, smallN v⟩ else none) else none
  | _ => none
def cutF (b : List UInt8) : Option (List UInt8 × List UInt8) := match getF b with
  | none => none
  | some (n, r) => if 4000 < n ∨ r.length < n then none else some (r.take n, r.drop n)
/-- all numbers of bytes -/
def allF (b : List UInt8) : Option (List Nat) := getsF b.length b
def oneR (t : List UInt8) : Option PRec := match openF t with
  | none => none
  | some b => match allF b with
    | none => none
    | some ns => parseR ns
def stepS (b : List UInt8) : Option (PRec × Nat) := match cutF b with
  | none => none
  | some (t, r) => match oneR t with
    | none => none
    | some x => some (x, b.length - r.length)
def scanK : Nat → List UInt8 → List PRec × Nat
  | 0, _ => ([], 0)
  | k + 1, b => match stepS b with
    | none => ([], 0)
    | some (r, n) => (r :: (scanK k (b.drop n)).1, n + (scanK k (b.drop n)).2)
/-- the records with which bytes begin, and how many bytes they are -/
def scanR (b : List UInt8) : List PRec × Nat := scanK b.length b

def eRc (r : PRec) : List AV := [eI r.kind, eI r.view.add, eI r.view.del, eI r.cell.node, eI r.cell.change.add, eI r.cell.change.del, eI r.entry.key, eI r.entry.tag.num, eI r.entry.tag.node, .v (.float .f64 r.entry.value), eI r.n]
def eRs (l : List PRec) : List (List AV) := l.map eRc
@[simp] theorem eRs_length (l : List PRec) : (eRs l).length = l.length := by simp [eRs]
@[simp] theorem eRs_get (l : List PRec) (i : Nat) : (eRs l)[i]? = (l[i]?).map eRc := by simp [eRs]
@[simp] theorem eRs_nil : eRs [] = [] := rfl
@[simp] theorem eRs_append (l m : List PRec) : eRs l ++ eRs m = eRs (l ++ m) := by simp [eRs]
@[simp] theorem eRs_take (l : List PRec) (i : Nat) : (eRs l).take i = eRs (l.take i) := by simp [eRs]
@[simp] theorem eRs_drop (l : List PRec) (i : Nat) : (eRs l).drop i = eRs (l.drop i) := by simp [eRs]
theorem eRs_one (l : List PRec) : ∀ r ∈ eRs l, r.length = 11 := by
  intro r hr
  obtain ⟨b, _, rfl⟩ := List.mem_map.1 hr
  rfl
@[simp] theorem eRs_rows (l : List PRec) : (∀ r : List AV, r ∈ eRs l → r.length = 11) ↔ True := iff_of_true (eRs_one l) trivial
end Go.Proofs.Ytbgifnlaaophcaa

/- Plain laws: records there and back. No condition. -/
set_option linter.unusedSimpArgs false
set_option linter.unusedVariables false
namespace Go.Proofs.Ytbgifnlaaophcaa
open Go Go.Rw Go.Proofs

theorem nanB_zero : nanB 0 = false := by decide
theorem bitsF_zero : bitsF 0 = 0 := by decide
theorem ofF_eq (b : Nat) : ofF b = bitsF b := rfl
theorem bitsF_is_zero {b : Nat} (h : bitsF b = 0) : b = 0 := by
  unfold bitsF cleanB at h
  split at h
  · simp at h
  · exact h
theorem sameE_iff (x y : PEntry) : sameE x y = true ↔ x.key = y.key ∧ x.tag = y.tag ∧ bitsF x.value = bitsF y.value := by
  simp [sameE, and_assoc]
theorem sameR_iff (a b : PRec) : sameR a b = true ↔ a.kind = b.kind ∧ a.view = b.view ∧ a.cell = b.cell ∧ a.n = b.n ∧ sameE a.entry b.entry = true := by
  obtain ⟨k, ⟨v1, v2⟩, ⟨c, ⟨c1, c2⟩⟩, e, n⟩ := a
  obtain ⟨k', ⟨v1', v2'⟩, ⟨c', ⟨c1', c2'⟩⟩, e', n'⟩ := b
  simp [sameR, and_assoc]
theorem sameE_zero (x : PEntry) : sameE x zE = true ↔ x = zE := by
  obtain ⟨k, ⟨t1, t2⟩, v⟩ := x
  simp only [sameE_iff, zE, PEntry.mk.injEq, PTag.mk.injEq, bitsF_zero]
  constructor
  · rintro ⟨h1, h2, h3⟩; exact ⟨h1, h2, bitsF_is_zero h3⟩
  · rintro ⟨h1, h2, rfl⟩; exact ⟨h1, h2, bitsF_zero⟩
/-- its value's bits in one form -/
def cleanR (r : PRec) : PRec := { r with entry := cleanE bitsF r.entry }
inductive RightR (r : PRec) : Prop
  | value (v : PView) (e : PEntry) (h : r = ⟨1, v, zC, e, 0⟩) (hv : rightV v = true) (h1 : 0 ≤ e.key) (h2 : e.key < 4) (h3 : rightT e.tag = true) (h4 : e.tag.num ≠ 0)
  | cell (v : PView) (c : PCell) (h : r = ⟨2, v, c, zE, 0⟩) (hv : rightV v = true) (h1 : 0 ≤ c.node) (h2 : c.node < 6) (h3 : rightV c.change = true) (h4 : 0 < sizeV c.change)
  | mark (v : PView) (h : r = ⟨3, v, zC, zE, 0⟩) (hv : rightV v = true)
  | num (k n : Int) (h : r = ⟨k, zV, zC, zE, n⟩) (hk : k = 4 ∨ k = 6) (h1 : 1 ≤ n) (h2 : n ≤ 1000000)
  | intent (v u : PView) (h : r = ⟨5, v, ⟨0, u⟩, zE, 0⟩) (hv : rightV v = true) (hu : rightV u = true) (h4 : 0 < sizeV u)
theorem rightR_of {r : PRec} (h : rightR r = true) : RightR r := by
  obtain ⟨k, v, ⟨cn, cc⟩, e, n⟩ := r
  simp only [rightR, Bool.and_eq_true, decide_eq_true_eq, sameR_iff] at h
  obtain ⟨⟨⟨⟨⟨hk, hs⟩, hv⟩, hc⟩, hn⟩, hx⟩ := h
  by_cases k1 : k = 1
  · subst k1
    simp only [bareR, if_true, true_and] at hs hx
    obtain ⟨hs1, hs2, _⟩ := hs
    have := okE_of (show okE (-1) e = true by simpa [checkE] using hx)
    exact .value v e (by rw [hs1, hs2]) hv (by omega) this.2.1 this.2.2.1 this.2.2.2
  by_cases k2 : k = 2
  · subst k2
    simp [bareR, sameE_zero] at hs hx
    obtain ⟨rfl, rfl⟩ := hs
    exact .cell v _ rfl hv hn.1 hn.2 hc hx
  by_cases k5 : k = 5
  · subst k5
    simp [bareR, sameE_zero] at hs hx
    obtain ⟨rfl, rfl, rfl⟩ := hs
    exact .intent v _ rfl hv hc hx
  by_cases k3 : k = 3
  · subst k3
    simp [bareR, sameE_zero] at hs hx
    obtain ⟨hs1, rfl, rfl⟩ := hs
    exact .mark v (by rw [hs1]) hv
  have k46 : k = 4 ∨ k = 6 := by omega
  have hb : bareR ⟨k, v, ⟨cn, cc⟩, e, n⟩ = ⟨k, zV, zC, zE, n⟩ := by unfold bareR; simp [k1, k2, k3, k5, k46]
  rw [hb] at hs
  simp [sameE_zero] at hs
  obtain ⟨rfl, hs1, rfl⟩ := hs
  simp [k1, k2, k5, k46] at hx
  exact .num k n (by rw [hs1]) k46 hx.1 hx.2
theorem rightV_zero : rightV zV = true := by decide
theorem rightV_zero' : rightV ⟨0, 0⟩ = true := by decide
theorem rightR_to {r : PRec} (h : RightR r) : rightR r = true := by
  cases h with
  | value v e h hv h1 h2 h3 h4 =>
    subst h
    have he : okE (-1) e = true := okE_5 _ _ (by omega) (by omega) h3 h4
    have hz : sizeV ⟨0, 0⟩ = sizeV ⟨0, 0⟩ := rfl
    simp [rightR, sameR_iff, bareR, sameE_iff, hv, checkE, he, zC, rightV_zero']
  | cell v c h hv h1 h2 h3 h4 => subst h; simp [rightR, sameR_iff, bareR, sameE_iff, hv, h1, h2, h3, h4]
  | mark v h hv => subst h; simp [rightR, sameR_iff, bareR, sameE_iff, hv, zC, rightV_zero']
  | num k n h hk h1 h2 =>
    subst h
    rcases hk with rfl | rfl <;> simp [rightR, sameR_iff, bareR, sameE_iff, zV, zC, rightV_zero', h1, h2]
  | intent v u h hv hu h4 => subst h; simp [rightR, sameR_iff, bareR, sameE_iff, hv, hu, h4]
theorem rightR_iff (r : PRec) : rightR r = true ↔ RightR r := ⟨rightR_of, rightR_to⟩

theorem smallN_id {n : Nat} (h : n ≤ 1099511627776) : smallN n = n := Nat.min_eq_left h
theorem nmdV_name {v : PView} (h : rightV v = true) : nmdV (nameV v).toNat = some v := by
  have h1 := nameV_lt h
  obtain ⟨a, d⟩ := v
  simp [rightV] at h
  have e : smallN (nameV ⟨a, d⟩).toNat = (a * 64 + d).toNat := by rw [smallN_id (by omega)]; rfl
  unfold nmdV
  rw [e, if_pos (by omega)]
  congr 2 <;> omega
theorem nmdV_some {n : Nat} {w : PView} (h : nmdV n = some w) : rightV w = true ∧ (nameV w).toNat = n := by
  unfold nmdV at h
  split at h
  · rename_i hlt
    have hn : smallN n = n := by unfold smallN at hlt ⊢; omega
    rw [hn] at h hlt
    obtain rfl := Option.some.inj h
    constructor
    · simp [rightV]; omega
    · simp [nameV]; omega
  · simp at h
theorem numsR_lt {r : PRec} (hr : rightR r = true) (hf : r.entry.value < 18446744073709551616) : ∀ n ∈ numsR r, n < 18446744073709551616 := by
  have hb := bitsF_lt hf
  intro x hx
  cases rightR_of hr with
  | value v e h hv h1 h2 h3 h4 =>
    subst h
    have := nameV_lt hv; have := rightT_of h3
    simp only at hb
    simp [numsR] at hx; omega
  | cell v c h hv h1 h2 h3 h4 =>
    subst h
    have := nameV_lt hv; have := nameV_lt h3
    simp [numsR] at hx; omega
  | mark v h hv =>
    subst h
    have := nameV_lt hv
    simp [numsR] at hx; omega
  | num k n h hk h1 h2 =>
    subst h
    rcases hk with rfl | rfl <;> simp [numsR] at hx <;> omega
  | intent v u h hv hu h4 =>
    subst h
    have := nameV_lt hv; have := nameV_lt hu
    simp [numsR] at hx; omega
theorem numsR_length (r : PRec) : 2 ≤ (numsR r).length ∧ (numsR r).length ≤ 6 := by
  unfold numsR
  split
  · simp
  split
  · simp
  split
  · simp
  split <;> simp
theorem bodyR_length {r : PRec} (hr : rightR r = true) (hf : r.entry.value < 18446744073709551616) : 4 ≤ (bodyR r).length ∧ (bodyR r).length ≤ 58 := by
  have h1 := forms_length (numsR_lt hr hf)
  have h2 := numsR_length r
  simp only [bodyR, sealF_length]
  omega
theorem recB_length {r : PRec} (hr : rightR r = true) (hf : r.entry.value < 18446744073709551616) : (recB r).length = (bodyR r).length + 2 := by
  have h := bodyR_length hr hf
  have h1 := sizeN_pos (n := (bodyR r).length) (by omega) (by omega)
  have h2 := sizeN_small (n := (bodyR r).length) (k := 1) (by omega) (by omega)
  simp only [recB, List.length_append, formF_length]
  omega
theorem parse_nums {r : PRec} (hr : rightR r = true) (hf : r.entry.value < 18446744073709551616) : parseR (numsR r) = some (cleanR r) := by
  cases rightR_of hr with
  | value v e h hv h1 h2 h3 h4 =>
    subst h
    have ht := rightT_of h3
    obtain ⟨ek, ⟨e1, e2⟩, ev⟩ := e
    simp only at h1 h2 h4 ht
    have a1 : ((smallN ek.toNat : Nat) : Int) = ek := by rw [smallN_id (by omega)]; omega
    have a2 : ((smallN e1.toNat : Nat) : Int) = e1 := by rw [smallN_id (by omega)]; omega
    have a3 : ((smallN e2.toNat : Nat) : Int) = e2 := by rw [smallN_id (by omega)]; omega
    have hr2 : rightR ⟨1, v, zC, ⟨ek, ⟨e1, e2⟩, bitsF ev⟩, 0⟩ = true := rightR_to (.value v _ rfl hv h1 h2 h3 h4)
    simp [numsR, parseR, nmdV_name hv, a1, a2, a3, ofF_eq, bitsF_idem, hr2, cleanR, cleanE]
  | cell v c h hv h1 h2 h3 h4 =>
    subst h
    obtain ⟨cn, cc⟩ := c
    simp only at h1 h2 h3 h4
    have a1 : ((smallN cn.toNat : Nat) : Int) = cn := by rw [smallN_id (by omega)]; omega
    simp only [zE] at hr
    simp [numsR, parseR, nmdV_name hv, nmdV_name h3, a1, hr, cleanR, cleanE, zE, bitsF_zero]
  | mark v h hv =>
    subst h
    simp only [zE] at hr
    simp [numsR, parseR, nmdV_name hv, hr, cleanR, cleanE, zE, bitsF_zero]
  | num k n h hk h1 h2 =>
    subst h
    have a1 : ((smallN n.toNat : Nat) : Int) = n := by rw [smallN_id (by omega)]; omega
    rcases hk with rfl | rfl <;>
    · simp only [zE] at hr
      simp [numsR, parseR, a1, hr, cleanR, cleanE, zE, bitsF_zero]
  | intent v u h hv hu h4 =>
    subst h
    simp only [zE] at hr
    simp [numsR, parseR, nmdV_name hv, nmdV_name hu, hr, cleanR, cleanE, zE, bitsF_zero]
end Go.Proofs.Ytbgifnlaaophcaa

/- Plain laws: logs there and back. No condition. -/
set_option linter.unusedSimpArgs false
set_option linter.unusedVariables false
namespace Go.Proofs.Ytbgifnlaaophcaa
open Go Go.Rw Go.Proofs

def fitR (r : PRec) : Prop := r.entry.value < 18446744073709551616
theorem parse_some {ns : List Nat} {r : PRec} (h : parseR ns = some r) (hlt : ∀ n ∈ ns, n < 18446744073709551616) : rightR r = true ∧ numsR r = ns ∧ cleanR r = r ∧ fitR r := by
  unfold parseR at h
  split at h
  · rename_i k v a b c x
    split at h
    · rename_i hk
      subst hk
      obtain ⟨w, hw, h⟩ := Option.bind_eq_some_iff.1 h
      obtain ⟨wv, wn⟩ := nmdV_some hw
      split at h
      · rename_i hc
        obtain ⟨hx, hr⟩ := hc
        obtain rfl := Option.some.inj h
        have hxl := hlt x (by simp)
        cases rightR_of hr with
        | value v' e' he hv h1 h2 h3 h4 =>
          injection he with q1 q2 q3 q4 q5
          subst q4
          have ht := rightT_of h3
          simp only at h1 h2 ht
          have e1 : smallN a = a := by unfold smallN at h2 ⊢; omega
          have e2 : smallN b = b := by unfold smallN at ht ⊢; omega
          have e3 : smallN c = c := by unfold smallN at ht ⊢; omega
          refine ⟨hr, ?_, ?_, ?_⟩
          · simp [numsR, wn, e1, e2, e3, hx]
          · simp [cleanR, cleanE, ofF_eq, bitsF_idem]
          · exact bitsF_lt hxl
        | cell _ _ he => injection he with q1; simp at q1
        | mark _ he => injection he with q1; simp at q1
        | num _ _ he hk => injection he with q1; omega
        | intent _ _ he => injection he with q1; simp at q1
      · simp at h
    · simp at h
  · rename_i k v a b
    split at h
    · rename_i hk
      subst hk
      obtain ⟨w, hw, h⟩ := Option.bind_eq_some_iff.1 h
      obtain ⟨u, hu, h⟩ := Option.bind_eq_some_iff.1 h
      obtain ⟨wv, wn⟩ := nmdV_some hw
      obtain ⟨uv, un⟩ := nmdV_some hu
      split at h
      · rename_i hr
        obtain rfl := Option.some.inj h
        cases rightR_of hr with
        | cell v' c' he hv h1 h2 h3 h4 =>
          injection he with q1 q2 q3 q4 q5
          subst q3
          simp only at h1 h2
          have e1 : smallN a = a := by unfold smallN at h2 ⊢; omega
          exact ⟨hr, by simp [numsR, wn, un, e1], by simp [cleanR, cleanE, zE, bitsF_zero], by simp [fitR, zE]⟩
        | value _ _ he => injection he with q1; simp at q1
        | mark _ he => injection he with q1; simp at q1
        | num _ _ he hk => injection he with q1; omega
        | intent _ _ he => injection he with q1; simp at q1
      · simp at h
    · simp at h
  · rename_i k v b
    split at h
    · rename_i hk
      subst hk
      obtain ⟨w, hw, h⟩ := Option.bind_eq_some_iff.1 h
      obtain ⟨u, hu, h⟩ := Option.bind_eq_some_iff.1 h
      obtain ⟨wv, wn⟩ := nmdV_some hw
      obtain ⟨uv, un⟩ := nmdV_some hu
      split at h
      · rename_i hr
        obtain rfl := Option.some.inj h
        exact ⟨hr, by simp [numsR, wn, un], by simp [cleanR, cleanE, zE, bitsF_zero], by simp [fitR, zE]⟩
      · simp at h
    · simp at h
  · rename_i k v
    split at h
    · rename_i hk
      subst hk
      obtain ⟨w, hw, h⟩ := Option.bind_eq_some_iff.1 h
      obtain ⟨wv, wn⟩ := nmdV_some hw
      split at h
      · rename_i hr
        obtain rfl := Option.some.inj h
        exact ⟨hr, by simp [numsR, wn], by simp [cleanR, cleanE, zE, bitsF_zero], by simp [fitR, zE]⟩
      · simp at h
    · split at h
      · rename_i hk
        split at h
        · rename_i hr
          obtain rfl := Option.some.inj h
          cases rightR_of hr with
          | num _ _ he hk' h1 h2 =>
            injection he with q1 q2 q3 q4 q5
            subst q5
            have e1 : smallN v = v := by unfold smallN at h2 ⊢; omega
            refine ⟨hr, ?_, by simp [cleanR, cleanE, zE, bitsF_zero], by simp [fitR, zE]⟩
            rcases hk with rfl | rfl <;> simp [numsR, e1]
          | value _ _ he => injection he with q1; omega
          | cell _ _ he => injection he with q1; omega
          | mark _ he => injection he with q1; omega
          | intent _ _ he => injection he with q1; omega
        · simp at h
      · simp at h
  · simp at h

theorem forms_ge : ∀ ns : List Nat, ns.length ≤ (forms ns).length
  | [] => by simp
  | n :: ns => by rw [len_forms_cons]; have := forms_ge ns; simp; omega
theorem allF_forms {ns : List Nat} (h : ∀ n ∈ ns, n < 18446744073709551616) : allF (forms ns) = some ns := getsF_forms _ ns h (forms_ge ns)
theorem getsF_forms_of : ∀ (k : Nat) (l : List UInt8) (ns : List Nat), l.length ≤ k → getsF k l = some ns → l = forms ns
  | 0, l, ns, hl, h => by
    obtain rfl : l = [] := List.eq_nil_of_length_eq_zero (by omega)
    simp [getsF] at h; subst h; rfl
  | k + 1, l, ns, hl, h => by
    simp only [getsF] at h
    split at h
    · rename_i hz; subst hz; simp at h; subst h; rfl
    · cases hg : getF l with
      | none => rw [hg] at h; simp at h
      | some p =>
        obtain ⟨n, r⟩ := p
        rw [hg] at h
        simp only at h
        obtain ⟨ns', h1, rfl⟩ := Option.map_eq_some_iff.1 h
        have := (getF_len hg).1
        rw [forms_cons, ← getsF_forms_of k r ns' (by omega) h1]
        exact (getF_some hg).1
theorem allF_some {b : List UInt8} {ns : List Nat} (h : allF b = some ns) : b = forms ns ∧ ∀ n ∈ ns, n < 18446744073709551616 := ⟨getsF_forms_of _ _ _ (Nat.le_refl _) h, getsF_lt _ _ _ h⟩
theorem oneR_body {r : PRec} (hr : rightR r = true) (hf : fitR r) : oneR (bodyR r) = some (cleanR r) := by
  unfold oneR bodyR
  simp only [openF_seal, allF_forms (numsR_lt hr hf), parse_nums hr hf]
theorem oneR_some {t : List UInt8} {r : PRec} (h : oneR t = some r) : rightR r = true ∧ t = bodyR r ∧ cleanR r = r ∧ fitR r := by
  unfold oneR at h
  cases ho : openF t with
  | none => rw [ho] at h; simp at h
  | some b =>
    rw [ho] at h
    simp only at h
    cases ha : allF b with
    | none => rw [ha] at h; simp at h
    | some ns =>
      rw [ha] at h
      simp only at h
      obtain ⟨h1, h2⟩ := allF_some ha
      obtain ⟨h3, h4, h5, h6⟩ := parse_some h h2
      exact ⟨h3, by rw [bodyR, h4, ← h1]; exact openF_some ho, h5, h6⟩
theorem cutF_rec (t l : List UInt8) (h : t.length ≤ 4000) : cutF (formF t.length ++ t ++ l) = some (t, l) := by
  unfold cutF
  rw [List.append_assoc, getF_form (by omega)]
  simp
  omega
theorem stepS_rec {r : PRec} (hr : rightR r = true) (hf : fitR r) (l : List UInt8) : stepS (recB r ++ l) = some (cleanR r, (recB r).length) := by
  unfold stepS
  rw [recB, cutF_rec _ _ (by have := bodyR_length hr hf; omega)]
  simp only [oneR_body hr hf]
  simp
  omega
theorem stepS_some {b : List UInt8} {r : PRec} {n : Nat} (h : stepS b = some (r, n)) : rightR r = true ∧ cleanR r = r ∧ fitR r ∧ n = (recB r).length ∧ b = recB r ++ b.drop n := by
  unfold stepS at h
  cases hc : cutF b with
  | none => rw [hc] at h; simp at h
  | some p =>
    obtain ⟨t, rest⟩ := p
    rw [hc] at h
    simp only at h
    cases ho : oneR t with
    | none => rw [ho] at h; simp at h
    | some x =>
      rw [ho] at h
      simp at h
      obtain ⟨rfl, rfl⟩ := h
      obtain ⟨h1, h2, h3, h4⟩ := oneR_some ho
      unfold cutF at hc
      cases hg : getF b with
      | none => rw [hg] at hc; simp at hc
      | some q =>
        obtain ⟨m, rr⟩ := q
        rw [hg] at hc
        simp only at hc
        split at hc
        · simp at hc
        · rename_i hm
          simp at hc
          obtain ⟨e1, e2⟩ := hc
          have hb := (getF_some hg).1
          have hml : t.length = m := by rw [← e1, List.length_take]; omega
          have hb2 : b = recB x ++ rest := by
            rw [recB, ← h2, hml, hb, List.append_assoc, ← e1, ← e2, List.take_append_drop]
          have hl : b.length - rest.length = (recB x).length := by rw [hb2]; simp
          refine ⟨h1, h3, h4, hl, ?_⟩
          rw [hl]
          conv => rhs; rw [hb2]
          rw [List.drop_left]
          exact hb2
theorem recB_pos (r : PRec) : 0 < (recB r).length := by simp only [recB, List.length_append, formF_length]; omega
theorem stepS_le {b : List UInt8} {r : PRec} {n : Nat} (h : stepS b = some (r, n)) : 0 < n ∧ n ≤ b.length := by
  obtain ⟨_, _, _, h1, h2⟩ := stepS_some h
  have := recB_pos r
  have h3 := congrArg List.length h2
  simp only [List.length_append, List.length_drop] at h3
  omega
theorem scanK_fuel : ∀ (k : Nat) (b : List UInt8), b.length ≤ k → scanK k b = scanR b
  | 0, b, h => by
    obtain rfl : b = [] := List.eq_nil_of_length_eq_zero (by omega)
    rfl
  | k + 1, b, h => by
    cases hb : b.length with
    | zero =>
      obtain rfl : b = [] := List.eq_nil_of_length_eq_zero hb
      rfl
    | succ m =>
      unfold scanR
      rw [hb]
      simp only [scanK]
      cases hs : stepS b with
      | none => rfl
      | some p =>
        obtain ⟨r, n⟩ := p
        have hn := stepS_le hs
        have hd : (b.drop n).length ≤ m := by rw [List.length_drop]; omega
        simp only
        rw [scanK_fuel k (b.drop n) (by omega), scanK_fuel m (b.drop n) hd]
theorem scanR_none {b : List UInt8} (h : stepS b = none) : scanR b = ([], 0) := by
  unfold scanR
  cases b.length with
  | zero => rfl
  | succ k => simp only [scanK, h]
theorem scanR_step {b : List UInt8} {r : PRec} {n : Nat} (h : stepS b = some (r, n)) : scanR b = (r :: (scanR (b.drop n)).1, n + (scanR (b.drop n)).2) := by
  have hn := stepS_le h
  unfold scanR
  cases hb : b.length with
  | zero => omega
  | succ k =>
    simp only [scanK, h]
    have hd : (b.drop n).length ≤ k := by rw [List.length_drop]; omega
    rw [scanK_fuel k _ hd]
    rfl
def recsB (l : List PRec) : List UInt8 := l.flatMap recB
theorem recsB_cons (r : PRec) (l : List PRec) : recsB (r :: l) = recB r ++ recsB l := rfl
@[simp] theorem recsB_nil : recsB [] = [] := rfl
theorem recsB_append (l m : List PRec) : recsB (l ++ m) = recsB l ++ recsB m := by simp [recsB]
theorem scanR_recs : ∀ (l : List PRec) (b : List UInt8), (∀ r ∈ l, rightR r = true ∧ fitR r) → scanR (recsB l ++ b) = (l.map cleanR ++ (scanR b).1, (recsB l).length + (scanR b).2)
  | [], b, _ => by simp
  | r :: l, b, h => by
    obtain ⟨h1, h2⟩ := h r (by simp)
    have hs := stepS_rec h1 h2 (recsB l ++ b)
    rw [recsB_cons, List.append_assoc, scanR_step hs, List.drop_left, scanR_recs l b (fun x hx => h x (by simp [hx]))]
    simp; omega
theorem scanR_own : ∀ (k : Nat) (b : List UInt8), b.length ≤ k → (∀ r ∈ (scanR b).1, rightR r = true ∧ cleanR r = r ∧ fitR r) ∧ b = recsB (scanR b).1 ++ b.drop (scanR b).2 ∧ (scanR b).2 = (recsB (scanR b).1).length ∧ stepS (b.drop (scanR b).2) = none
  | 0, b, h => by
    obtain rfl : b = [] := List.eq_nil_of_length_eq_zero (by omega)
    exact ⟨by simp [scanR, scanK], rfl, rfl, rfl⟩
  | k + 1, b, h => by
    cases hs : stepS b with
    | none => rw [scanR_none hs]; simp [hs]
    | some p =>
      obtain ⟨r, n⟩ := p
      obtain ⟨h1, h2, h3, h4, h5⟩ := stepS_some hs
      have hn := stepS_le hs
      obtain ⟨i1, i2, i3, i4⟩ := scanR_own k (b.drop n) (by rw [List.length_drop]; omega)
      rw [scanR_step hs]
      refine ⟨?_, ?_, ?_, ?_⟩
      · intro x hx
        rcases List.mem_cons.1 hx with rfl | hx
        · exact ⟨h1, h2, h3⟩
        · exact i1 x hx
      · conv => lhs; rw [h5, i2]
        simp only [recsB_cons, List.drop_drop, List.append_assoc]
      · rw [recsB_cons, List.length_append, ← i3, ← h4]
      · rw [← List.drop_drop]; exact i4
end Go.Proofs.Ytbgifnlaaophcaa

/- Contracts: texts; records. No condition. -/
set_option linter.unusedSimpArgs false
set_option linter.unusedVariables false
set_option maxRecDepth 10000
namespace Go.Proofs.Ytbgifnlaaophcaa
open Go Go.Rw Go.Proofs
-- a goal is never to be run by the elaborator
attribute [local irreducible] awp aops aop aopsE aeff

@[simp] theorem take_len_drop {α : Type} (l : List α) (n : Nat) : (l.drop n).take (l.length - n) = l.drop n := List.take_of_length_le (by simp)
def textA (b t : List UInt8) : AV := if 4000 < t.length then .tup [.sl .no [], eI 21] else .tup [.sl .no (eB (b ++ formF t.length ++ t)), eI 0]
theorem text_spec (b t : List UInt8) (hl : b.length ≤ 1000000000) : ASpec Try.prog 96 [.sl .no (eB b), .sl .no (eB t)] (· = textA b t) := by
  refine ASpec.of_awp Try.func96 (by kernel_rfl) rfl (by rw [Try.results96]) Try.ntmps96 ?_
  by_cases h : 4000 < t.length
  · have h' : (4000 : Int) < (t.length : Int) := by omega
    simp -implicitDefEqProofs [h', textA, h]
    try (intro _; rfl)
  · have h' : ¬ (4000 : Int) < (t.length : Int) := by omega
    have w : IntKind.u64.wrap (t.length : Int) = (t.length : Int) := wu64 (by omega) (by omega)
    simp -implicitDefEqProofs [h', w]
    intro _
    have hf : (forms [t.length]).length ≤ 9 := by
      have := forms_length (ns := [t.length]) (by simp; omega)
      simpa using this
    refine CallK.via (put_spec b [t.length] (by simp; omega) (by simp; omega)) (by simp [eU, encU]) ?_
    rintro _ ⟨tag, ht, rfl⟩
    simp -implicitDefEqProofs [ht]
    refine ⟨by omega, ?_⟩
    simp [textA, h, forms]
theorem text2_spec (b t : List UInt8) (hl : b.length ≤ 1000000000) : ASpec Try.prog 98 [.sl .no (eB b), .sl .no (eB t)] (· = textA b t) := by
  refine ASpec.of_awp Try.func98 (by kernel_rfl) rfl (by rw [Try.results98]) Try.ntmps98 ?_
  by_cases h : 4000 < t.length
  · have h' : (4000 : Int) < (t.length : Int) := by omega
    simp -implicitDefEqProofs [h', textA, h]
    try (intro _; rfl)
  · have h' : ¬ (4000 : Int) < (t.length : Int) := by omega
    have w : IntKind.u64.wrap (t.length : Int) = (t.length : Int) := wu64 (by omega) (by omega)
    simp -implicitDefEqProofs [h', w]
    intro _
    have hf : (forms [t.length]).length ≤ 9 := by
      have := forms_length (ns := [t.length]) (by simp; omega)
      simpa using this
    refine CallK.via (put2_spec b [t.length] (by simp; omega) (by simp; omega)) (by simp [eU, encU]) ?_
    rintro _ ⟨tag, ht, rfl⟩
    simp -implicitDefEqProofs [ht]
    refine ⟨by omega, ?_⟩
    simp [textA, h, forms]
def cutA (o : Option (List UInt8 × List UInt8)) : AV := match o with
  | some (t, r) => .tup [.sl .no (eB t), .sl .no (eB r), eI 0]
  | none => .tup [.sl .no [], .sl .no [], eI 21]
theorem cut_spec (b : List UInt8) (hl : b.length ≤ 140737488355328) : ASpec Try.prog 92 [.sl .no (eB b)] (· = cutA (cutF b)) := by
  refine ASpec.of_awp Try.func92 (by kernel_rfl) rfl (by rw [Try.results92]) Try.ntmps92 ?_
  simp -implicitDefEqProofs
  refine CallK.eq (get_spec b hl) ?_
  cases hg : getF b with
  | none =>
    simp -implicitDefEqProofs [getA, cutF, hg, cutA]
  | some p =>
    obtain ⟨n, r⟩ := p
    have hr := getF_len hg
    have w : IntKind.u64.wrap (r.length : Int) = (r.length : Int) := wu64 (by omega) (by omega)
    by_cases h1 : 4000 < n
    · have h1' : (4000 : Int) < (n : Int) := by omega
      simp -implicitDefEqProofs [getA, h1', cutF, hg, h1, cutA]
    · have h1' : ¬ (4000 : Int) < (n : Int) := by omega
      by_cases h2 : r.length < n
      · have h2' : (r.length : Int) < (n : Int) := by omega
        simp -implicitDefEqProofs [getA, h1', w, h2']
        intro _
        simp -implicitDefEqProofs [getA, h1', w, h2', cutF, hg, h1, h2, cutA]
      · have h2' : ¬ (r.length : Int) < (n : Int) := by omega
        have h3 : (n : Int) ≤ (r.length : Int) := by omega
        simp -implicitDefEqProofs [getA, h1', w, h2']
        intro _
        refine regionK.intro 11 follows_mixed (by kernel_rfl) ?_
        simp -implicitDefEqProofs [h3]
        refine CallQ.of (clone_bytes (r.take n) (by simp; omega)) (x := .sl .no (eB (r.take n))) (by rintro _ ⟨tag, _, rfl⟩; rfl) ?_
        simp -implicitDefEqProofs [h3]
        refine CallQ.of (clone_bytes (r.drop n) (by simp; omega)) (x := .sl .no (eB (r.drop n))) (by rintro _ ⟨tag, _, rfl⟩; rfl) ?_
        simp -implicitDefEqProofs [cutF, hg, h1, h2, cutA]
theorem cut2_spec (b : List UInt8) (hl : b.length ≤ 140737488355328) : ASpec Try.prog 126 [.sl .no (eB b)] (· = cutA (cutF b)) := by
  refine ASpec.of_awp Try.func126 (by kernel_rfl) rfl (by rw [Try.results126]) Try.ntmps126 ?_
  simp -implicitDefEqProofs
  refine CallK.eq (get2_spec b hl) ?_
  cases hg : getF b with
  | none =>
    simp -implicitDefEqProofs [getA, cutF, hg, cutA]
  | some p =>
    obtain ⟨n, r⟩ := p
    have hr := getF_len hg
    by_cases h1 : 4000 < n
    · have h1' : (4000 : Int) < (n : Int) := by omega
      simp -implicitDefEqProofs [getA, h1', cutF, hg, h1, cutA]
    · have h1' : ¬ (4000 : Int) < (n : Int) := by omega
      have w : IntKind.i64.wrap (n : Int) = (n : Int) := w64 (by omega) (by omega)
      by_cases h2 : r.length < n
      · have h2' : (r.length : Int) < (n : Int) := by omega
        simp -implicitDefEqProofs [getA, h1', w, h2']
        intro _
        simp -implicitDefEqProofs [getA, h1', w, h2', cutF, hg, h1, h2, cutA]
      · have h2' : ¬ (r.length : Int) < (n : Int) := by omega
        have h3 : (n : Int) ≤ (r.length : Int) := by omega
        simp -implicitDefEqProofs [getA, h1', w, h2']
        intro _
        refine regionK.intro 9 follows_mixed (by kernel_rfl) ?_
        simp -implicitDefEqProofs [h3, cutF, hg, h1, h2, cutA]

theorem bare_spec (r : PRec) : ASpec Try.prog 102 [.agg (eRc r)] (· = .agg (eRc (bareR r))) := by
  refine ASpec.of_awp Try.func102 (by kernel_rfl) rfl (by rw [Try.results102]) Try.ntmps102 ?_
  simp -implicitDefEqProofs [eRc]
  refine allocK.intro (fun b1 hb1 => ?_)
  simp -implicitDefEqProofs
  refine allocK.intro (fun b2 hb2 => ?_)
  have hbb : ¬ b1 = b2 := by rintro rfl; simp at hb2
  have hbb' : ¬ b2 = b1 := fun h => hbb h.symm
  simp -implicitDefEqProofs [hbb, hbb']
  refine allocK.intro (fun b3 hb3 => ?_)
  have n1 : ¬ b1 = b3 := by rintro rfl; simp [hbb] at hb3
  have n1' : ¬ b3 = b1 := fun h => n1 h.symm
  have n2 : ¬ b2 = b3 := by rintro rfl; simp [hbb'] at hb3
  have n2' : ¬ b3 = b2 := fun h => n2 h.symm
  have hz : zE.key = 0 ∧ zE.tag.num = 0 ∧ zE.tag.node = 0 ∧ zE.value = 0 := ⟨rfl, rfl, rfl, rfl⟩
  by_cases k1 : r.kind = 1
  · simp -implicitDefEqProofs [hbb, hbb', n1, n1', n2, n2', k1]
    refine regionK.modes [b3] [.q, .q, .q, .q, .q, .l, .s, .s] follows_mixed (by kernel_rfl) ?_
    simp -implicitDefEqProofs [hbb, hbb', n1, n1', n2, n2', k1, bareR, eRc, zC, maskH]
  by_cases k2 : r.kind = 2
  · simp -implicitDefEqProofs [hbb, hbb', n1, n1', n2, n2', k1, k2]
    refine regionK.modes [b3] [.q, .q, .q, .q, .q, .q, .l, .s, .s, .s] follows_mixed (by kernel_rfl) ?_
    simp -implicitDefEqProofs [hbb, hbb', n1, n1', n2, n2', k1, k2, bareR, eRc, zE, maskH]
  by_cases k5 : r.kind = 5
  · simp -implicitDefEqProofs [hbb, hbb', n1, n1', n2, n2', k1, k2, k5]
    refine regionK.modes [b3] [.q, .q, .q, .q, .q, .q, .l, .s, .s, .s] follows_mixed (by kernel_rfl) ?_
    simp -implicitDefEqProofs [hbb, hbb', n1, n1', n2, n2', k1, k2, k5, bareR, eRc, zE, maskH]
  by_cases k3 : r.kind = 3
  · simp -implicitDefEqProofs [hbb, hbb', n1, n1', n2, n2', k1, k2, k5, k3, bareR, eRc, zE, zC]
  by_cases k4 : r.kind = 4
  · simp -implicitDefEqProofs [hbb, hbb', n1, n1', n2, n2', k1, k2, k5, k3, k4, bareR, eRc, zE, zC, zV]
  by_cases k6 : r.kind = 6
  · simp -implicitDefEqProofs [hbb, hbb', n1, n1', n2, n2', k1, k2, k5, k3, k4, k6, bareR, eRc, zE, zC, zV]
  · simp -implicitDefEqProofs [hbb, hbb', n1, n1', n2, n2', k1, k2, k5, k3, k4, k6, bareR, eRc, zE, zC, zV]
end Go.Proofs.Ytbgifnlaaophcaa

/- Contracts: which records can be, and their bytes. No condition. -/
set_option linter.unusedSimpArgs false
set_option linter.unusedVariables false
set_option maxRecDepth 10000
namespace Go.Proofs.Ytbgifnlaaophcaa
open Go Go.Rw Go.Proofs
-- a goal is never to be run by the elaborator
attribute [local irreducible] awp aops aop aopsE aeff

theorem sameEs_one (x y : PEntry) : sameEs [x] [y] = sameE x y := by simp [sameEs]
theorem logsame_spec (a b : PRec) : ASpec Try.prog 101 [.agg (eRc a), .agg (eRc b)] (· = .v (.bool (sameR a b))) := by
  refine ASpec.of_awp Try.func101 (by kernel_rfl) rfl (by rw [Try.results101]) Try.ntmps101 ?_
  simp -implicitDefEqProofs [eRc]
  refine allocK.intro (fun b1 hb1 => ?_)
  simp -implicitDefEqProofs
  refine allocK.intro (fun b2 hb2 => ?_)
  have hbb : ¬ b1 = b2 := by rintro rfl; simp at hb2
  have hbb' : ¬ b2 = b1 := fun h => hbb h.symm
  by_cases h1 : a.kind = b.kind
  · by_cases h2 : a.view.add = b.view.add ∧ a.view.del = b.view.del
    · obtain ⟨h2, h3⟩ := h2
      by_cases h4 : a.cell.node = b.cell.node ∧ a.cell.change.add = b.cell.change.add ∧ a.cell.change.del = b.cell.change.del
      · obtain ⟨h4, h5, h6⟩ := h4
        by_cases h7 : a.n = b.n
        · simp -implicitDefEqProofs [hbb, hbb', h1, h2, h3, h4, h5, h6, h7]
          refine CallK.with (book_same [a.entry] [b.entry]) (by simp [eEs, eE]) ?_
          rw [sameEs_one]
          simp -implicitDefEqProofs [hbb, hbb', h1, h2, h3, h4, h5, h6, h7, sameR]
        · simp -implicitDefEqProofs [hbb, hbb', h1, h2, h3, h4, h5, h6, h7, sameR]
      · have h4' : sameR a b = false := by
          by_cases q : a.cell.node = b.cell.node
          · by_cases q2 : a.cell.change.add = b.cell.change.add
            · have q3 : ¬ a.cell.change.del = b.cell.change.del := fun q3 => h4 ⟨q, q2, q3⟩
              simp [sameR, q3]
            · simp [sameR, q2]
          · simp [sameR, q]
        have h4'' : (a.cell.node == b.cell.node && (a.cell.change.add == b.cell.change.add && a.cell.change.del == b.cell.change.del)) = false := by simpa using h4
        simp -implicitDefEqProofs [hbb, hbb', h1, h2, h3, h4', h4'']
    · have h4' : sameR a b = false := by
        by_cases q : a.view.add = b.view.add
        · have q3 : ¬ a.view.del = b.view.del := fun q3 => h2 ⟨q, q3⟩
          simp [sameR, q3]
        · simp [sameR, q]
      have h4'' : (a.view.add == b.view.add && a.view.del == b.view.del) = false := by simpa using h2
      simp -implicitDefEqProofs [hbb, hbb', h1, h4', h4'']
  · simp -implicitDefEqProofs [hbb, hbb', h1, sameR]
theorem bareR_kind (r : PRec) : (bareR r).kind = r.kind := by
  unfold bareR
  split
  · rename_i h; exact h.symm
  split
  · rename_i h; exact h.symm
  split
  · rename_i h; exact h.symm
  split
  · rename_i h; exact h.symm
  split <;> rfl
theorem logright_spec (r : PRec) : ASpec Try.prog 39 [.agg (eRc r)] (· = .v (.bool (rightR r))) := by
  refine ASpec.of_awp Try.func39 (by kernel_rfl) rfl (by rw [Try.results39]) Try.ntmps39 ?_
  simp -implicitDefEqProofs [eRc]
  refine allocK.intro (fun b1 hb1 => ?_)
  simp -implicitDefEqProofs
  by_cases h1 : r.kind < 1
  · have e : rightR r = false := by unfold rightR; rw [decide_eq_false (by omega)]; rfl
    refine regionK.intro 40 follows_mixed (by kernel_rfl) ?_
    simp -implicitDefEqProofs [h1, e]
  by_cases h2 : 6 < r.kind
  · have e : rightR r = false := by unfold rightR; rw [decide_eq_false (by omega)]; rfl
    refine regionK.intro 40 follows_mixed (by kernel_rfl) ?_
    simp -implicitDefEqProofs [h1, h2, e]
  have hk : 1 ≤ r.kind ∧ r.kind ≤ 6 := by omega
  refine regionK.intro 40 follows_mixed (by kernel_rfl) ?_
  simp -implicitDefEqProofs [h1, h2]
  refine CallQ.with (bare_spec r) (by simp [eRc]) ?_
  simp -implicitDefEqProofs
  refine CallQ.with (logsame_spec r (bareR r)) (by simp [eRc]) ?_
  cases h3 : sameR r (bareR r)
  · simp -implicitDefEqProofs [rightR, h3]
  simp -implicitDefEqProofs
  refine CallQ.with (change_right r.view) (by simp [eV]) ?_
  cases h4 : rightV r.view
  · simp -implicitDefEqProofs [rightR, h3, h4]
  simp -implicitDefEqProofs
  refine CallQ.with (change_right r.cell.change) (by simp [eV]) ?_
  cases h5 : rightV r.cell.change
  · simp -implicitDefEqProofs [rightR, h3, h4, h5]
  by_cases h6 : r.cell.node < 0
  · have h6' : ¬ 0 ≤ r.cell.node := by omega
    simp -implicitDefEqProofs [rightR, h3, h4, h5, h6, h6']
  by_cases h7 : 6 ≤ r.cell.node
  · have h7' : ¬ r.cell.node < 6 := by omega
    simp -implicitDefEqProofs [rightR, h3, h4, h5, h6, h7, h7']
  have h8 : 0 ≤ r.cell.node ∧ r.cell.node < 6 := by omega
  have hr : rightR r = (if r.kind = 1 then checkE (-1) [r.entry] else if r.kind = 2 ∨ r.kind = 5 then decide (0 < sizeV r.cell.change) else if r.kind = 4 ∨ r.kind = 6 then decide (1 ≤ r.n ∧ r.n ≤ 1000000) else true) := by
    unfold rightR
    rw [decide_eq_true hk, h3, h4, h5, decide_eq_true h8]
    simp
  simp -implicitDefEqProofs [h6, h7]
  by_cases k1 : r.kind = 1
  · rw [if_pos k1] at hr
    simp -implicitDefEqProofs [k1]
    refine CallK.with (book_check [r.entry]) (by simp [eEs, eE]) ?_
    rw [hr]
    cases checkE (-1) [r.entry] <;> simp -implicitDefEqProofs
  rw [if_neg k1] at hr
  by_cases k2 : r.kind = 2
  · rw [if_pos (.inl k2)] at hr
    simp -implicitDefEqProofs [k1, k2]
    refine CallK.with (change_size r.cell.change h5) (by simp [eV]) ?_
    simp -implicitDefEqProofs [hr]
  by_cases k5 : r.kind = 5
  · rw [if_pos (.inr k5)] at hr
    simp -implicitDefEqProofs [k1, k2, k5]
    refine CallK.with (change_size r.cell.change h5) (by simp [eV]) ?_
    simp -implicitDefEqProofs [hr]
  rw [if_neg (by omega)] at hr
  by_cases k4 : r.kind = 4
  · rw [if_pos (.inl k4)] at hr
    by_cases n1 : 1 ≤ r.n
    · simp -implicitDefEqProofs [k1, k2, k5, k4, n1, hr]
    · simp -implicitDefEqProofs [k1, k2, k5, k4, n1, hr]
  by_cases k6 : r.kind = 6
  · rw [if_pos (.inr k6)] at hr
    by_cases n1 : 1 ≤ r.n
    · simp -implicitDefEqProofs [k1, k2, k5, k4, k6, n1, hr]
    · simp -implicitDefEqProofs [k1, k2, k5, k4, k6, n1, hr]
  rw [if_neg (by omega)] at hr
  simp -implicitDefEqProofs [k1, k2, k5, k4, k6, hr]
end Go.Proofs.Ytbgifnlaaophcaa

/- Contracts: records as numbers and bytes. No condition. -/
set_option linter.unusedSimpArgs false
set_option linter.unusedVariables false
set_option maxRecDepth 10000
namespace Go.Proofs.Ytbgifnlaaophcaa
open Go Go.Rw Go.Proofs
-- a goal is never to be run by the elaborator
attribute [local irreducible] awp aops aop aopsE aeff

theorem uW {n : Int} (h0 : 0 ≤ n) (h1 : n < 18446744073709551616) : IntKind.u64.wrap n = ((n.toNat : Nat) : Int) := by rw [wu64 h0 h1]; omega
theorem rightR_bounds {r : PRec} (h : rightR r = true) : (1 ≤ r.kind ∧ r.kind ≤ 6) ∧ rightV r.view = true ∧ rightV r.cell.change = true ∧ (0 ≤ r.cell.node ∧ r.cell.node < 6) := by
  simp only [rightR, Bool.and_eq_true, decide_eq_true_eq] at h
  exact ⟨h.1.1.1.1.1, h.1.1.1.2, h.1.1.2, h.1.2⟩
def Nums (r : PRec) (x : AV) : Prop := ∃ tag, x = .sl tag (eU (numsR r))
theorem lognums_spec (r : PRec) (hr : rightR r = true) (hf : fitR r) : ASpec Try.prog 97 [.agg (eRc r)] (Nums r) := by
  obtain ⟨hk, hv, hc, hn⟩ := rightR_bounds hr
  have n1 := nameV_lt hv
  have n2 := nameV_lt hc
  have w1 := uW n1.1 (by omega)
  have w2 := uW n2.1 (by omega)
  have w3 : IntKind.u64.wrap r.kind = ((r.kind.toNat : Nat) : Int) := uW (by omega) (by omega)
  refine ASpec.of_awp Try.func97 (by kernel_rfl) rfl (by rw [Try.results97]) Try.ntmps97 ?_
  simp -implicitDefEqProofs [eRc]
  refine allocK.intro (fun b1 hb1 => ?_)
  simp -implicitDefEqProofs
  refine regionK.intro 11 follows_mixed (by kernel_rfl) ?_
  simp -implicitDefEqProofs
  refine CallQ.with (change_name r.view hv) (by simp [eV]) ?_
  simp -implicitDefEqProofs [w1]
  refine CallQ.with (change_name r.cell.change hc) (by simp [eV]) ?_
  simp -implicitDefEqProofs [w2, w3]
  cases rightR_of hr with
  | value v e h hv h1 h2 h3 h4 =>
    have ht := rightT_of h3
    have a1 : IntKind.u64.wrap e.key = ((e.key.toNat : Nat) : Int) := uW (by omega) (by omega)
    have a2 : IntKind.u64.wrap e.tag.num = ((e.tag.num.toNat : Nat) : Int) := uW (by omega) (by omega)
    have a3 : IntKind.u64.wrap e.tag.node = ((e.tag.node.toNat : Nat) : Int) := uW (by omega) (by omega)
    have k1 : r.kind = 1 := by rw [h]
    have ee : r.entry = e := by rw [h]
    simp -implicitDefEqProofs [k1]
    refine regionK.intro 23 follows_mixed (by kernel_rfl) ?_
    simp -implicitDefEqProofs [ee, a1, a2, a3]
    refine CallQ.eq (num_bits e.value) ?_
    simp -implicitDefEqProofs [ee, a1, a2, a3]
    exact ⟨_, by simp [numsR, k1, ee, eU, encU]; exact ⟨rfl, rfl⟩⟩
  | cell v c h hv h1 h2 h3 h4 =>
    have k1 : r.kind = 2 := by rw [h]
    have ee : r.cell = c := by rw [h]
    have a1 : IntKind.u64.wrap c.node = ((c.node.toNat : Nat) : Int) := uW (by omega) (by omega)
    simp -implicitDefEqProofs [k1, ee, a1]
    exact ⟨_, by simp [numsR, k1, ee, eU, encU]; exact ⟨rfl, rfl⟩⟩
  | mark v h hv =>
    have k1 : r.kind = 3 := by rw [h]
    simp -implicitDefEqProofs [k1]
    exact ⟨_, by simp [numsR, k1, eU, encU]; exact ⟨rfl, rfl⟩⟩
  | num k n h hk h1 h2 =>
    have k1 : r.kind = k := by rw [h]
    have ee : r.n = n := by rw [h]
    have a1 : IntKind.u64.wrap n = ((n.toNat : Nat) : Int) := uW (by omega) (by omega)
    rcases hk with rfl | rfl
    · simp -implicitDefEqProofs [k1, ee, a1]
      exact ⟨_, by simp [numsR, k1, ee, eU, encU]; exact ⟨rfl, rfl⟩⟩
    · simp -implicitDefEqProofs [k1, ee, a1]
      exact ⟨_, by simp [numsR, k1, ee, eU, encU]; exact ⟨rfl, rfl⟩⟩
  | intent v u h hv hu h4 =>
    have k1 : r.kind = 5 := by rw [h]
    simp -implicitDefEqProofs [k1]
    exact ⟨_, by simp [numsR, k1, eU, encU]; exact ⟨rfl, rfl⟩⟩
def bytesA (o : Option (List UInt8)) : AV := match o with
  | some l => .tup [.sl .no (eB l), eI 0]
  | none => .tup [.sl .no [], eI 91]
theorem logbytes_spec (r : PRec) (hf : fitR r) : ASpec Try.prog 36 [.agg (eRc r)] (· = bytesA (bytesR r)) := by
  refine ASpec.of_awp Try.func36 (by kernel_rfl) rfl (by rw [Try.results36]) Try.ntmps36 ?_
  simp -implicitDefEqProofs [eRc]
  refine allocK.intro (fun b1 hb1 => ?_)
  simp -implicitDefEqProofs
  refine CallK.with (logright_spec r) (by simp [eRc]) ?_
  cases hr : rightR r
  · simp -implicitDefEqProofs [bytesR, hr, bytesA]
  simp -implicitDefEqProofs
  refine CallK.via (lognums_spec r hr hf) (by simp [eRc]) ?_
  rintro _ ⟨tag, rfl⟩
  have hl := numsR_length r
  have hfl := forms_length (numsR_lt hr hf)
  simp -implicitDefEqProofs
  refine CallK.of (put_spec [] (numsR r) (numsR_lt hr hf) (by simp; omega)) ?_
  rintro _ ⟨tag2, _, rfl⟩
  simp -implicitDefEqProofs
  refine CallK.of (seal_spec (forms (numsR r)) (by omega)) ?_
  rintro _ ⟨tag3, _, rfl⟩
  simp -implicitDefEqProofs
  refine CallK.eq (text_spec [] (sealF (forms (numsR r))) (by simp)) ?_
  have h4 : ¬ 4000 < (sealF (forms (numsR r))).length := by rw [sealF_length]; omega
  rw [textA, if_neg h4]
  simp -implicitDefEqProofs [bytesR, hr, bytesA, recB, bodyR]
end Go.Proofs.Ytbgifnlaaophcaa

/- Contracts: records are read. No condition. -/
set_option linter.unusedSimpArgs false
set_option linter.unusedVariables false
set_option maxRecDepth 10000
namespace Go.Proofs.Ytbgifnlaaophcaa
open Go Go.Rw Go.Proofs
-- a goal is never to be run by the elaborator
attribute [local irreducible] awp aops aop aopsE aeff

theorem small_spec (n : Nat) : ASpec Try.prog 131 [.v (.int .u64 n)] (· = eI (smallN n : Nat)) := by
  refine ASpec.of_awp Try.func131 (by kernel_rfl) rfl (by rw [Try.results131]) Try.ntmps131 ?_
  by_cases h : 1099511627776 < n
  · have h' : (1099511627776 : Int) < (n : Int) := by omega
    have e : smallN n = 1099511627776 := by unfold smallN; omega
    have w : IntKind.i64.wrap 1099511627776 = 1099511627776 := by decide
    simp -implicitDefEqProofs [h', e, w]
  · have h' : ¬ (1099511627776 : Int) < (n : Int) := by omega
    have e : smallN n = n := by unfold smallN; omega
    have w : IntKind.i64.wrap (n : Int) = n := w64 (by omega) (by omega)
    simp -implicitDefEqProofs [h', e, w]
def viewA (n : Nat) : AV := .tup [.agg (eV ((nmdV n).getD zV)), .v (.bool (nmdV n).isSome)]
theorem logview_spec (n : Nat) : ASpec Try.prog 132 [.v (.int .u64 n)] (· = viewA n) := by
  refine ASpec.of_awp Try.func132 (by kernel_rfl) rfl (by rw [Try.results132]) Try.ntmps132 ?_
  simp -implicitDefEqProofs
  refine allocK.intro (fun b1 hb1 => ?_)
  simp -implicitDefEqProofs
  refine CallK.eq (small_spec n) ?_
  simp -implicitDefEqProofs
  refine CallK.eq (change_named (smallN n : Nat)) ?_
  by_cases h : smallN n < 4096
  · have e : namedA (smallN n : Nat) = .tup [.agg (eV ⟨(smallN n : Nat) / 64, (smallN n : Nat) % 64⟩), eI 0] := if_pos (by omega)
    have e2 : nmdV n = some ⟨(smallN n : Nat) / 64, (smallN n : Nat) % 64⟩ := if_pos h
    rw [e]
    simp -implicitDefEqProofs [eV]
    refine allocK.intro (fun b2 hb2 => ?_)
    have hbb : ¬ b1 = b2 := by rintro rfl; simp at hb2
    have hbb' : ¬ b2 = b1 := fun h => hbb h.symm
    simp -implicitDefEqProofs [hbb, hbb', viewA, e2, eV]
  · have e : namedA (smallN n : Nat) = .tup [.agg (eV ⟨0, 0⟩), eI 41] := if_neg (by omega)
    have e2 : nmdV n = none := if_neg h
    rw [e]
    simp -implicitDefEqProofs [eV]
    refine allocK.intro (fun b2 hb2 => ?_)
    have hbb : ¬ b1 = b2 := by rintro rfl; simp at hb2
    have hbb' : ¬ b2 = b1 := fun h => hbb h.symm
    simp -implicitDefEqProofs [hbb, hbb', viewA, e2, eV, zV]
/-- what is read: a record, if it can be -/
def OptR (o : Option PRec) (x : AV) : Prop := ∃ r, x = .tup [.agg (eRc r), .v (.bool o.isSome)] ∧ ∀ r', o = some r' → r' = r
theorem opt_no {o : Option PRec} (h : o = none) (r : PRec) {x : AV} (hx : x = .tup [.agg (eRc r), .v (.bool false)]) : OptR o x := ⟨r, by rw [h]; exact hx, by rw [h]; simp⟩
theorem opt_yes {o : Option PRec} {r : PRec} (h : o = some r) {x : AV} (hx : x = .tup [.agg (eRc r), .v (.bool true)]) : OptR o x := ⟨r, by rw [h]; exact hx, by rw [h]; simp⟩
theorem parse_short {ns : List Nat} (h : ns.length < 2) : parseR ns = none := by
  match ns, h with
  | [], _ => rfl
  | [_], _ => rfl
theorem smallN_ne {n k : Nat} (h : ¬ n = k) (hk : k ≤ 1000) : ¬ ((smallN n : Nat) : Int) = (k : Int) := by unfold smallN; omega
theorem smallN_1 : smallN 1 = 1 := by decide
theorem smallN_2 : smallN 2 = 2 := by decide
theorem smallN_3 : smallN 3 = 3 := by decide
theorem smallN_4 : smallN 4 = 4 := by decide
theorem smallN_5 : smallN 5 = 5 := by decide
theorem smallN_6 : smallN 6 = 6 := by decide
theorem parse_shape {k v : Nat} {l : List Nat} (h : ¬ ((k = 1 ∧ l.length = 4) ∨ (k = 2 ∧ l.length = 2) ∨ (k = 5 ∧ l.length = 1) ∨ (k = 3 ∧ l.length = 0) ∨ ((k = 4 ∨ k = 6) ∧ l.length = 0))) : parseR (k :: v :: l) = none := by
  unfold parseR
  split
  · rename_i heq; injection heq with e1 heq; injection heq with e2 heq; subst e1; subst heq
    simp at h; simp [h]
  · rename_i heq; injection heq with e1 heq; injection heq with e2 heq; subst e1; subst heq
    simp at h; simp [h]
  · rename_i heq; injection heq with e1 heq; injection heq with e2 heq; subst e1; subst heq
    simp at h; simp [h]
  · rename_i heq; injection heq with e1 heq; injection heq with e2 heq; subst e1; subst heq
    simp at h; simp [h]
  · rfl
theorem parse_spec (ns : List Nat) : ASpec Try.prog 125 [.sl .no (eU ns)] (OptR (parseR ns)) := by
  refine ASpec.of_awp Try.func125 (by kernel_rfl) rfl (by rw [Try.results125]) Try.ntmps125 ?_
  simp -implicitDefEqProofs
  refine allocK.intro (fun b1 hb1 => ?_)
  by_cases h2 : ns.length < 2
  · have h2' : (ns.length : Int) < 2 := by omega
    simp -implicitDefEqProofs [h2']
    intro _
    exact ⟨zR, by rw [parse_short h2]; rfl, by rw [parse_short h2]; simp⟩
  have h2' : ¬ (ns.length : Int) < 2 := by omega
  obtain ⟨k, v, l, rfl⟩ : ∃ k v l, ns = k :: v :: l := by
    match ns, h2 with
    | [], h => simp at h
    | [_], h => simp at h
    | k :: v :: l, _ => exact ⟨k, v, l, rfl⟩
  have h2'' : ¬ ((l.length : Int) + 1 + 1 < 2) := by omega
  simp -implicitDefEqProofs [h2'', encU]
  intro hlen
  refine CallK.eq (small_spec k) ?_
  simp -implicitDefEqProofs [encU]
  refine CallK.eq (logview_spec v) ?_
  simp -implicitDefEqProofs [viewA, eV]
  refine allocK.intro (fun b2 hb2 => ?_)
  have hbb : ¬ b1 = b2 := by rintro rfl; simp at hb2
  have hbb' : ¬ b2 = b1 := fun h => hbb h.symm
  obtain ⟨w, hw⟩ : ∃ w, (nmdV v).getD zV = w := ⟨_, rfl⟩
  obtain ⟨is, his⟩ : ∃ is, (nmdV v).isSome = is := ⟨_, rfl⟩
  by_cases A : k = 1 ∧ l.length = 4
  · obtain ⟨rfl, hl⟩ := A
    obtain ⟨a, b, c, x, rfl⟩ : ∃ a b c x, l = [a, b, c, x] := by
      match l, hl with
      | [a, b, c, x], _ => exact ⟨a, b, c, x, rfl⟩
    simp -implicitDefEqProofs [hbb, hbb', smallN_1, hw, his, encU]
    refine regionK.intro 18 follows_mixed (by kernel_rfl) ?_
    simp -implicitDefEqProofs [hbb, hbb', encU]
    refine CallQ.eq (small_spec a) ?_
    simp -implicitDefEqProofs [encU]
    refine CallQ.eq (small_spec b) ?_
    simp -implicitDefEqProofs [encU]
    refine CallQ.eq (small_spec c) ?_
    simp -implicitDefEqProofs [encU]
    refine CallQ.eq (num_of x) ?_
    simp -implicitDefEqProofs [hbb, hbb', encU]
    refine regionK.intro 12 follows_mixed (by kernel_rfl) ?_
    cases is
    · have hno : nmdV v = none := by cases hq : nmdV v <;> simp [hq] at his; rfl
      have hp : parseR [1, v, a, b, c, x] = none := by simp [parseR, hno]
      simp -implicitDefEqProofs [hbb, hbb', encU]
      refine regionK.modes [b1] [.r, .q, .q, .r, .r, .q, .l, .r] follows_mixed (by kernel_rfl) ?_
      simp -implicitDefEqProofs [hbb, hbb', encU, maskH]
      exact opt_no hp ⟨1, w, zC, ⟨smallN a, ⟨smallN b, smallN c⟩, ofF x⟩, 0⟩ rfl
    · obtain ⟨w', hsome⟩ : ∃ w', nmdV v = some w' := by cases hq : nmdV v <;> simp [hq] at his; exact ⟨_, rfl⟩
      obtain rfl : w' = w := by rw [hsome] at hw; simpa using hw
      simp -implicitDefEqProofs [hbb, hbb', encU]
      refine CallQ.eq (num_bits (ofF x)) ?_
      simp -implicitDefEqProofs [hbb, hbb', encU]
      by_cases hx : bitsF (ofF x) = x
      · have hx' : ((bitsF (ofF x) : Nat) : Int) = (x : Int) := by omega
        simp -implicitDefEqProofs [hx']
        refine regionK.modes [b1] [.r, .q, .q, .r, .r, .q, .l, .r] follows_mixed (by kernel_rfl) ?_
        simp -implicitDefEqProofs [hbb, hbb', encU, maskH, hx]
        refine CallQ.with (logright_spec ⟨1, w', zC, ⟨smallN a, ⟨smallN b, smallN c⟩, ofF x⟩, 0⟩) (by simp [eRc, zC, zE, zV]) ?_
        cases hr : rightR ⟨1, w', zC, ⟨smallN a, ⟨smallN b, smallN c⟩, ofF x⟩, 0⟩
        · have hp : parseR [1, v, a, b, c, x] = none := by simp [parseR, hsome, hx, hr]
          simp -implicitDefEqProofs [hbb, hbb', encU, maskH, hx]
          exact opt_no hp ⟨1, w', zC, ⟨smallN a, ⟨smallN b, smallN c⟩, ofF x⟩, 0⟩ rfl
        · have hp : parseR [1, v, a, b, c, x] = some ⟨1, w', zC, ⟨smallN a, ⟨smallN b, smallN c⟩, ofF x⟩, 0⟩ := by simp [parseR, hsome, hx, hr]
          simp -implicitDefEqProofs [hbb, hbb', encU, maskH, hx]
          exact opt_yes hp rfl
      · have hx' : ¬ ((bitsF (ofF x) : Nat) : Int) = (x : Int) := by omega
        have hp : parseR [1, v, a, b, c, x] = none := by simp [parseR, hsome, hx]
        simp -implicitDefEqProofs [hx']
        refine regionK.modes [b1] [.r, .q, .q, .r, .r, .q, .l, .r] follows_mixed (by kernel_rfl) ?_
        simp -implicitDefEqProofs [hbb, hbb', encU, maskH]
        exact opt_no hp ⟨1, w', zC, ⟨smallN a, ⟨smallN b, smallN c⟩, ofF x⟩, 0⟩ rfl
  by_cases B2 : k = 2 ∧ l.length = 2
  · obtain ⟨rfl, hl⟩ := B2
    obtain ⟨a, b, rfl⟩ : ∃ a b, l = [a, b] := by
      match l, hl with
      | [a, b], _ => exact ⟨a, b, rfl⟩
    simp -implicitDefEqProofs [hbb, hbb', smallN_2, hw, his, encU]
    refine CallK.eq (logview_spec b) ?_
    simp -implicitDefEqProofs [viewA, eV, hbb, hbb', encU]
    refine allocK.intro (fun b3 hb3 => ?_)
    have n1 : ¬ b1 = b3 := by rintro rfl; simp [hbb] at hb3
    have n1' : ¬ b3 = b1 := fun h => n1 h.symm
    have n2 : ¬ b2 = b3 := by rintro rfl; simp [hbb'] at hb3
    have n2' : ¬ b3 = b2 := fun h => n2 h.symm
    obtain ⟨u, hu⟩ : ∃ u, (nmdV b).getD zV = u := ⟨_, rfl⟩
    obtain ⟨us, hus⟩ : ∃ us, (nmdV b).isSome = us := ⟨_, rfl⟩
    simp -implicitDefEqProofs [hbb, hbb', n1, n1', n2, n2', hu, hus, encU]
    refine regionK.modes [b1] [.q, .q, .q, .q, .q, .q, .q, .q, .l, .q, .l] follows_mixed (by kernel_rfl) ?_
    simp -implicitDefEqProofs [hbb, hbb', n1, n1', n2, n2', hu, hus, encU, maskH]
    refine CallQ.eq (small_spec a) ?_
    simp -implicitDefEqProofs [hbb, hbb', n1, n1', n2, n2', hu, hus, encU, maskH]
    cases is
    · have hno : nmdV v = none := by cases hq : nmdV v <;> simp [hq] at his; rfl
      have hp : parseR [2, v, a, b] = none := by simp [parseR, hno]
      simp -implicitDefEqProofs [hbb, hbb', encU]
      refine regionK.modes [b1] [.r, .q, .q, .r, .r, .q, .l, .r] follows_mixed (by kernel_rfl) ?_
      simp -implicitDefEqProofs [hbb, hbb', encU, maskH]
      exact opt_no hp ⟨2, w, ⟨smallN a, u⟩, zE, 0⟩ rfl
    · obtain ⟨w', hsome⟩ : ∃ w', nmdV v = some w' := by cases hq : nmdV v <;> simp [hq] at his; exact ⟨_, rfl⟩
      obtain rfl : w' = w := by rw [hsome] at hw; simpa using hw
      cases us
      · have hno : nmdV b = none := by cases hq : nmdV b <;> simp [hq] at hus; rfl
        have hp : parseR [2, v, a, b] = none := by simp [parseR, hno]
        simp -implicitDefEqProofs [hbb, hbb', encU]
        refine regionK.modes [b1] [.r, .q, .q, .r, .r, .q, .l, .r] follows_mixed (by kernel_rfl) ?_
        simp -implicitDefEqProofs [hbb, hbb', encU, maskH]
        exact opt_no hp ⟨2, w', ⟨smallN a, u⟩, zE, 0⟩ rfl
      · obtain ⟨u', hsome2⟩ : ∃ u', nmdV b = some u' := by cases hq : nmdV b <;> simp [hq] at hus; exact ⟨_, rfl⟩
        obtain rfl : u' = u := by rw [hsome2] at hu; simpa using hu
        simp -implicitDefEqProofs [hbb, hbb', encU]
        refine regionK.modes [b1] [.r, .q, .q, .r, .r, .q, .l, .r] follows_mixed (by kernel_rfl) ?_
        simp -implicitDefEqProofs [hbb, hbb', encU, maskH]
        refine CallQ.with (logright_spec ⟨2, w', ⟨smallN a, u'⟩, zE, 0⟩) (by simp [eRc, zC, zE, zV]) ?_
        cases hr : rightR ⟨2, w', ⟨smallN a, u'⟩, zE, 0⟩
        · have hp : parseR [2, v, a, b] = none := by simp [parseR, hsome, hsome2, hr]
          simp -implicitDefEqProofs [hbb, hbb', encU, maskH]
          exact opt_no hp ⟨2, w', ⟨smallN a, u'⟩, zE, 0⟩ rfl
        · have hp : parseR [2, v, a, b] = some ⟨2, w', ⟨smallN a, u'⟩, zE, 0⟩ := by simp [parseR, hsome, hsome2, hr]
          simp -implicitDefEqProofs [hbb, hbb', encU, maskH]
          exact opt_yes hp rfl
  by_cases B5 : k = 5 ∧ l.length = 1
  · obtain ⟨rfl, hl⟩ := B5
    obtain ⟨b, rfl⟩ : ∃ b, l = [b] := by
      match l, hl with
      | [b], _ => exact ⟨b, rfl⟩
    simp -implicitDefEqProofs [hbb, hbb', smallN_5, hw, his, encU]
    refine CallK.eq (logview_spec b) ?_
    simp -implicitDefEqProofs [viewA, eV, hbb, hbb', encU]
    refine allocK.intro (fun b3 hb3 => ?_)
    have n1 : ¬ b1 = b3 := by rintro rfl; simp [hbb] at hb3
    have n1' : ¬ b3 = b1 := fun h => n1 h.symm
    have n2 : ¬ b2 = b3 := by rintro rfl; simp [hbb'] at hb3
    have n2' : ¬ b3 = b2 := fun h => n2 h.symm
    obtain ⟨u, hu⟩ : ∃ u, (nmdV b).getD zV = u := ⟨_, rfl⟩
    obtain ⟨us, hus⟩ : ∃ us, (nmdV b).isSome = us := ⟨_, rfl⟩
    simp -implicitDefEqProofs [hbb, hbb', n1, n1', n2, n2', hu, hus, encU]
    refine regionK.modes [b1] [.q, .q, .q, .l, .q, .q, .l] follows_mixed (by kernel_rfl) ?_
    simp -implicitDefEqProofs [hbb, hbb', n1, n1', n2, n2', hu, hus, encU, maskH]
    cases is
    · have hno : nmdV v = none := by cases hq : nmdV v <;> simp [hq] at his; rfl
      have hp : parseR [5, v, b] = none := by simp [parseR, hno]
      simp -implicitDefEqProofs [hbb, hbb', encU]
      refine regionK.modes [b1] [.r, .q, .q, .r, .r, .q, .l, .r] follows_mixed (by kernel_rfl) ?_
      simp -implicitDefEqProofs [hbb, hbb', encU, maskH]
      exact opt_no hp ⟨5, w, ⟨0, u⟩, zE, 0⟩ rfl
    · obtain ⟨w', hsome⟩ : ∃ w', nmdV v = some w' := by cases hq : nmdV v <;> simp [hq] at his; exact ⟨_, rfl⟩
      obtain rfl : w' = w := by rw [hsome] at hw; simpa using hw
      cases us
      · have hno : nmdV b = none := by cases hq : nmdV b <;> simp [hq] at hus; rfl
        have hp : parseR [5, v, b] = none := by simp [parseR, hno]
        simp -implicitDefEqProofs [hbb, hbb', encU]
        refine regionK.modes [b1] [.r, .q, .q, .r, .r, .q, .l, .r] follows_mixed (by kernel_rfl) ?_
        simp -implicitDefEqProofs [hbb, hbb', encU, maskH]
        exact opt_no hp ⟨5, w', ⟨0, u⟩, zE, 0⟩ rfl
      · obtain ⟨u', hsome2⟩ : ∃ u', nmdV b = some u' := by cases hq : nmdV b <;> simp [hq] at hus; exact ⟨_, rfl⟩
        obtain rfl : u' = u := by rw [hsome2] at hu; simpa using hu
        simp -implicitDefEqProofs [hbb, hbb', encU]
        refine regionK.modes [b1] [.r, .q, .q, .r, .r, .q, .l, .r] follows_mixed (by kernel_rfl) ?_
        simp -implicitDefEqProofs [hbb, hbb', encU, maskH]
        refine CallQ.with (logright_spec ⟨5, w', ⟨0, u'⟩, zE, 0⟩) (by simp [eRc, zC, zE, zV]) ?_
        cases hr : rightR ⟨5, w', ⟨0, u'⟩, zE, 0⟩
        · have hp : parseR [5, v, b] = none := by simp [parseR, hsome, hsome2, hr]
          simp -implicitDefEqProofs [hbb, hbb', encU, maskH]
          exact opt_no hp ⟨5, w', ⟨0, u'⟩, zE, 0⟩ rfl
        · have hp : parseR [5, v, b] = some ⟨5, w', ⟨0, u'⟩, zE, 0⟩ := by simp [parseR, hsome, hsome2, hr]
          simp -implicitDefEqProofs [hbb, hbb', encU, maskH]
          exact opt_yes hp rfl
  by_cases B3 : k = 3 ∧ l.length = 0
  · obtain ⟨rfl, hl⟩ := B3
    obtain rfl : l = [] := List.eq_nil_of_length_eq_zero hl
    simp -implicitDefEqProofs [hbb, hbb', smallN_3, hw, his, encU]
    cases is
    · have hno : nmdV v = none := by cases hq : nmdV v <;> simp [hq] at his; rfl
      have hp : parseR [3, v] = none := by simp [parseR, hno]
      refine regionK.modes [b1] [.r, .q, .q, .r, .r, .q, .l, .r] follows_mixed (by kernel_rfl) ?_
      simp -implicitDefEqProofs [hbb, hbb', encU, maskH]
      exact opt_no hp ⟨3, w, zC, zE, 0⟩ rfl
    · obtain ⟨w', hsome⟩ : ∃ w', nmdV v = some w' := by cases hq : nmdV v <;> simp [hq] at his; exact ⟨_, rfl⟩
      obtain rfl : w' = w := by rw [hsome] at hw; simpa using hw
      refine regionK.modes [b1] [.r, .q, .q, .r, .r, .q, .l, .r] follows_mixed (by kernel_rfl) ?_
      simp -implicitDefEqProofs [hbb, hbb', encU, maskH]
      refine CallQ.with (logright_spec ⟨3, w', zC, zE, 0⟩) (by simp [eRc, zC, zE, zV]) ?_
      cases hr : rightR ⟨3, w', zC, zE, 0⟩
      · have hp : parseR [3, v] = none := by simp [parseR, hsome, hr]
        simp -implicitDefEqProofs [hbb, hbb', encU, maskH]
        exact opt_no hp ⟨3, w', zC, zE, 0⟩ rfl
      · have hp : parseR [3, v] = some ⟨3, w', zC, zE, 0⟩ := by simp [parseR, hsome, hr]
        simp -implicitDefEqProofs [hbb, hbb', encU, maskH]
        exact opt_yes hp rfl
  by_cases B4 : k = 4 ∧ l.length = 0
  · obtain ⟨rfl, hl⟩ := B4
    obtain rfl : l = [] := List.eq_nil_of_length_eq_zero hl
    simp -implicitDefEqProofs [hbb, hbb', smallN_4, hw, his, encU]
    refine CallK.eq (small_spec v) ?_
    simp -implicitDefEqProofs [hbb, hbb', encU]
    refine regionK.modes [b1] [.r, .q, .q, .r, .r, .q, .l, .r] follows_mixed (by kernel_rfl) ?_
    simp -implicitDefEqProofs [hbb, hbb', encU, maskH]
    refine CallQ.with (logright_spec ⟨4, zV, zC, zE, smallN v⟩) (by simp [eRc, zC, zE, zV]) ?_
    cases hr : rightR ⟨4, zV, zC, zE, smallN v⟩
    · have hp : parseR [4, v] = none := by simp [parseR, hr]
      simp -implicitDefEqProofs [hbb, hbb', encU, maskH]
      exact opt_no hp ⟨4, zV, zC, zE, smallN v⟩ rfl
    · have hp : parseR [4, v] = some ⟨4, zV, zC, zE, smallN v⟩ := by simp [parseR, hr]
      simp -implicitDefEqProofs [hbb, hbb', encU, maskH]
      exact opt_yes hp rfl
  by_cases B6 : k = 6 ∧ l.length = 0
  · obtain ⟨rfl, hl⟩ := B6
    obtain rfl : l = [] := List.eq_nil_of_length_eq_zero hl
    simp -implicitDefEqProofs [hbb, hbb', smallN_6, hw, his, encU]
    refine CallK.eq (small_spec v) ?_
    simp -implicitDefEqProofs [hbb, hbb', encU]
    refine regionK.modes [b1] [.r, .q, .q, .r, .r, .q, .l, .r] follows_mixed (by kernel_rfl) ?_
    simp -implicitDefEqProofs [hbb, hbb', encU, maskH]
    refine CallQ.with (logright_spec ⟨6, zV, zC, zE, smallN v⟩) (by simp [eRc, zC, zE, zV]) ?_
    cases hr : rightR ⟨6, zV, zC, zE, smallN v⟩
    · have hp : parseR [6, v] = none := by simp [parseR, hr]
      simp -implicitDefEqProofs [hbb, hbb', encU, maskH]
      exact opt_no hp ⟨6, zV, zC, zE, smallN v⟩ rfl
    · have hp : parseR [6, v] = some ⟨6, zV, zC, zE, smallN v⟩ := by simp [parseR, hr]
      simp -implicitDefEqProofs [hbb, hbb', encU, maskH]
      exact opt_yes hp rfl
  have hn : parseR (k :: v :: l) = none := parse_shape (by omega)
  by_cases k1 : k = 1
  · subst k1
    have hl : ¬ l.length = 4 := fun h => A ⟨rfl, h⟩
    have hl' : ¬ ((l.length : Int) + 1 + 1 = 6) := by omega
    simp -implicitDefEqProofs [hbb, hbb', smallN_1, hl, hl', hw, his, encU]
    exact fun _ => opt_no hn ⟨1, zV, zC, zE, 0⟩ rfl
  by_cases k2 : k = 2
  · subst k2
    have hl : ¬ l.length = 2 := fun h => B2 ⟨rfl, h⟩
    have hl' : ¬ ((l.length : Int) + 1 + 1 = 4) := by omega
    simp -implicitDefEqProofs [hbb, hbb', smallN_2, hl, hl', hw, his, encU]
    exact fun _ => opt_no hn ⟨2, zV, zC, zE, 0⟩ rfl
  by_cases k3 : k = 3
  · subst k3
    have hl : ¬ l.length = 0 := fun h => B3 ⟨rfl, h⟩
    have hl' : ¬ ((l.length : Int) + 1 + 1 = 2) := by omega
    simp -implicitDefEqProofs [hbb, hbb', smallN_3, hl, hl', hw, his, encU]
    exact fun _ => opt_no hn ⟨3, zV, zC, zE, 0⟩ rfl
  by_cases k4 : k = 4
  · subst k4
    have hl : ¬ l.length = 0 := fun h => B4 ⟨rfl, h⟩
    have hl' : ¬ ((l.length : Int) + 1 + 1 = 2) := by omega
    simp -implicitDefEqProofs [hbb, hbb', smallN_4, hl, hl', hw, his, encU]
    exact fun _ => opt_no hn ⟨4, zV, zC, zE, 0⟩ rfl
  by_cases k5 : k = 5
  · subst k5
    have hl : ¬ l.length = 1 := fun h => B5 ⟨rfl, h⟩
    have hl' : ¬ ((l.length : Int) + 1 + 1 = 3) := by omega
    simp -implicitDefEqProofs [hbb, hbb', smallN_5, hl, hl', hw, his, encU]
    exact fun _ => opt_no hn ⟨5, zV, zC, zE, 0⟩ rfl
  by_cases k6 : k = 6
  · subst k6
    have hl : ¬ l.length = 0 := fun h => B6 ⟨rfl, h⟩
    have hl' : ¬ ((l.length : Int) + 1 + 1 = 2) := by omega
    simp -implicitDefEqProofs [hbb, hbb', smallN_6, hl, hl', hw, his, encU]
    exact fun _ => opt_no hn ⟨6, zV, zC, zE, 0⟩ rfl
  have e1 : ¬ ((smallN k : Nat) : Int) = 1 := by simpa using smallN_ne k1 (by decide)
  have e2 : ¬ ((smallN k : Nat) : Int) = 2 := by simpa using smallN_ne k2 (by decide)
  have e3 : ¬ ((smallN k : Nat) : Int) = 3 := by simpa using smallN_ne k3 (by decide)
  have e4 : ¬ ((smallN k : Nat) : Int) = 4 := by simpa using smallN_ne k4 (by decide)
  have e5 : ¬ ((smallN k : Nat) : Int) = 5 := by simpa using smallN_ne k5 (by decide)
  have e6 : ¬ ((smallN k : Nat) : Int) = 6 := by simpa using smallN_ne k6 (by decide)
  simp -implicitDefEqProofs [hbb, hbb', e1, e2, e3, e4, e5, e6, hw, his, encU]
  exact opt_no hn ⟨smallN k, zV, zC, zE, 0⟩ rfl
end Go.Proofs.Ytbgifnlaaophcaa

/- Contracts: log.one, log.Scan, log.Same. No condition. -/
set_option linter.unusedSimpArgs false
set_option linter.unusedVariables false
set_option maxRecDepth 10000
namespace Go.Proofs.Ytbgifnlaaophcaa
open Go Go.Rw Go.Proofs
-- a goal is never to be run by the elaborator
attribute [local irreducible] awp aops aop aopsE aeff

def LoneI (t0 body : List UInt8) (b : Nat) (t : Nat → AV) (h : Nat → Option (List AV)) : Prop := ∃ (k : Nat) (rest : List UInt8) (cur : List Nat) (tag : Tag), t 0 = .sl .no (eB t0) ∧ t 2 = .ptr b 0 ∧ t 4 = .sl .no (eB rest) ∧ t 6 = .sl tag (eU cur) ∧ appOK tag 102 1 ∧
  h b = some (eRc zR) ∧ rest.length ≤ k ∧ rest.length + cur.length ≤ body.length ∧ allF body = (getsF k rest).map (cur ++ ·)
def LoneM (body : List UInt8) (b : Nat) (t : Nat → AV) (h : Nat → Option (List AV)) : Prop := ∃ (cur : List Nat) (tag : Tag), t 2 = .ptr b 0 ∧ t 6 = .sl tag (eU cur) ∧ h b = some (eRc zR) ∧ allF body = some cur
theorem logone_spec (f : List UInt8) (hf : f.length ≤ 1000000000) : ASpec Try.prog 93 [.sl .no (eB f)] (OptR (oneR f)) := by
  refine ASpec.of_awp Try.func93 (by kernel_rfl) rfl (by rw [Try.results93]) Try.ntmps93 ?_
  simp -implicitDefEqProofs
  refine allocK.intro (fun b hb => ?_)
  simp -implicitDefEqProofs
  refine CallK.eq (open_spec f (by omega)) ?_
  cases ho : openF f with
  | none =>
    have hn : oneR f = none := by simp [oneR, ho]
    simp -implicitDefEqProofs [openA]
    exact opt_no hn zR rfl
  | some body =>
    have hl := openF_len ho
    simp -implicitDefEqProofs [openA]
    refine loopK.post (LoneI f body b) (fun t => rowsIn (t 4)) (LoneM body b) ?_ ?_ ?_
    · refine ⟨body.length, body, [], .nil, by simp, by simp, by simp, by simp, by simp, by simp [eRc, zR, zV, zC, zE], by omega, by simp, ?_⟩
      simp [allF]
    · rintro t hh ⟨k, rest, cur, tag, g0, g2, g4, g6, gt, gb, hk, hrl, he⟩
      cases rest with
      | nil =>
        simp -implicitDefEqProofs [g4, g6]
        exact ⟨cur, tag, by simp [g2], by simp [g6], gb, by rw [he, getsF_nil]; simp⟩
      | cons x l =>
        have p1 : ¬ (l.length : Int) + 1 ≤ 0 := by omega
        have p2 : (0 : Int) < (l.length : Int) + 1 := by omega
        simp only [List.length_cons] at hk hrl
        simp -implicitDefEqProofs [g4, g6, p1, p2]
        intro _
        refine CallK.eq (get_spec (x :: l) (by simp only [List.length_cons]; omega)) ?_
        obtain ⟨k', rfl⟩ : ∃ k', k = k' + 1 := ⟨k - 1, by omega⟩
        cases hg : getF (x :: l) with
        | none =>
          rw [getsF_none _ hg] at he
          have hn : oneR f = none := by simp [oneR, ho, he]
          simp -implicitDefEqProofs [getA, g2, gb, eRc, zR, zV, zC, zE]
          exact opt_no hn zR rfl
        | some p =>
          obtain ⟨n, r⟩ := p
          have hr := (getF_len hg).1
          simp only [List.length_cons] at hr
          rw [getsF_some _ hg] at he
          simp -implicitDefEqProofs [getA, g6, gt]
          have hone : eU cur ++ [[AV.v (.int .u64 n)]] = eU (cur ++ [n]) := by simp [eU, encU]
          rw [hone]
          refine ⟨by omega, ⟨k', r, cur ++ [n], appTag tag 102 1 [[AV.v (.int .u64 n)]], by simp [g0], by simp [g2], by simp, by simp, by simp [gt], gb, by omega, by rw [List.length_append, List.length_singleton]; omega, ?_⟩, ?_⟩
          · rw [he]
            simp [Function.comp_def]
          · simp [g4]; omega
    rintro t hh ⟨cur, tag, g2, g6, gb, he⟩
    simp -implicitDefEqProofs [g6]
    refine CallK.via (parse_spec cur) (by simp) ?_
    rintro _ ⟨r, rfl, hr⟩
    simp -implicitDefEqProofs [g2, gb, eRc, zR, zV, zC, zE]
    have hq : oneR f = parseR cur := by simp [oneR, ho, he]
    rw [hq]
    exact ⟨r, rfl, hr⟩

theorem cutF_len {b t r : List UInt8} (h : cutF b = some (t, r)) : t.length ≤ 4000 ∧ r.length < b.length := by
  unfold cutF at h
  cases hg : getF b with
  | none => simp [hg] at h
  | some p =>
    obtain ⟨n, q⟩ := p
    have hl := (getF_len hg).1
    cases b with
    | nil => simp [getF] at hg
    | cons x l =>
      simp only [hg] at h
      split at h
      · cases h
      · cases h
        simp only [List.length_take, List.length_drop, List.length_cons] at *
        omega
def scanA (b : List UInt8) : AV := .tup [.sl .no (eRs (scanR b).1), eI (scanR b).2]
def ScI (b : List UInt8) (t : Nat → AV) (h : Nat → Option (List AV)) : Prop := ∃ (n : Nat) (cur : List PRec) (tag : Tag), t 0 = .sl .no (eB b) ∧ t 4 = .sl tag (eRs cur) ∧ t 5 = eI n ∧ appOK tag 61 11 ∧ n ≤ b.length ∧ cur.length ≤ n ∧
  scanR b = (cur ++ (scanR (b.drop n)).1, n + (scanR (b.drop n)).2)
def ScM (b : List UInt8) (t : Nat → AV) (h : Nat → Option (List AV)) : Prop := ∃ tag, t 4 = .sl tag (eRs (scanR b).1) ∧ t 5 = eI (scanR b).2
theorem scan_spec (b : List UInt8) (hl : b.length ≤ 1000000000) : ASpec Try.prog 32 [.sl .no (eB b)] (· = scanA b) := by
  refine ASpec.of_awp Try.func32 (by kernel_rfl) rfl (by rw [Try.results32]) Try.ntmps32 ?_
  simp -implicitDefEqProofs
  refine loopK.post (ScI b) (fun t => b.length - natOf (t 5)) (ScM b) ?_ ?_ ?_
  · exact ⟨0, [], .nil, by simp, by simp [eRs], by simp, by simp, by omega, by simp, by simp⟩
  · rintro t hh ⟨n, cur, tag, g0, g4, g5, gt, hn, hc, he⟩
    by_cases hlt : n < b.length
    · have hlt' : (n : Int) < (b.length : Int) := by omega
      have hle' : (n : Int) ≤ (b.length : Int) := by omega
      simp -implicitDefEqProofs [g0, g5, hlt', hle']
      intro _
      refine CallK.eq (cut_spec (b.drop n) (by rw [List.length_drop]; omega)) ?_
      cases hcut : cutF (b.drop n) with
      | none =>
        have hs : stepS (b.drop n) = none := by simp [stepS, hcut]
        rw [scanR_none hs] at he
        simp -implicitDefEqProofs [cutA]
        exact ⟨tag, by simp [g4, he], by simp [g5, he]⟩
      | some p =>
        obtain ⟨x, r⟩ := p
        simp -implicitDefEqProofs [cutA]
        have hx : x.length ≤ 1000000000 := by
          have := (cutF_len hcut).1
          omega
        refine CallK.via (logone_spec x hx) (by simp) ?_
        rintro _ ⟨rc, rfl, hr⟩
        simp -implicitDefEqProofs
        refine allocK.intro (fun b1 hb1 => ?_)
        cases ho : oneR x with
        | none =>
          have hs : stepS (b.drop n) = none := by simp [stepS, hcut, ho]
          rw [scanR_none hs] at he
          simp -implicitDefEqProofs [eRc]
          exact ⟨tag, by simp [g4, he], by simp [g5, he]⟩
        | some rc' =>
          obtain rfl := hr _ ho
          have hs : stepS (b.drop n) = some (rc', (b.drop n).length - r.length) := by simp [stepS, hcut, ho]
          have hst := stepS_le hs
          rw [scanR_step hs] at he
          have hr2 := (cutF_len hcut).2
          rw [List.length_drop] at hr2 hst he
          have w : IntKind.i64.wrap ((b.length : Int) - (r.length : Int)) = ((b.length - r.length : Nat) : Int) := by
            rw [w64 (by omega) (by omega)]; omega
          simp -implicitDefEqProofs [g4, gt, g0, eRc, w]
          have hone : eRs cur ++ [[eI rc'.kind, eI rc'.view.add, eI rc'.view.del, eI rc'.cell.node, eI rc'.cell.change.add, eI rc'.cell.change.del, eI rc'.entry.key, eI rc'.entry.tag.num, eI rc'.entry.tag.node, .v (.float .f64 rc'.entry.value), eI rc'.n]] = eRs (cur ++ [rc']) := by simp [eRs, eRc]
          simp only [eI] at hone
          rw [hone]
          have hnn : n + (b.length - n - r.length) = b.length - r.length := by omega
          rw [List.drop_drop, hnn] at he
          refine ⟨by omega, fun _ _ => ⟨⟨b.length - r.length, cur ++ [rc'], _, by simp [g0], by simp; rfl, by simp, by simp [gt], by omega, by rw [List.length_append, List.length_singleton]; omega, ?_⟩, ?_⟩⟩
          · rw [he]
            simp
            omega
          · simp [g5]
            omega
    · have hlt' : ¬ (n : Int) < (b.length : Int) := by omega
      have hd : b.drop n = [] := List.drop_of_length_le (by omega)
      simp -implicitDefEqProofs [g0, g5, hlt']
      intro _
      rw [hd] at he
      have hz : scanR [] = ([], 0) := rfl
      rw [hz] at he
      exact ⟨tag, by simp [g4, he], by simp [g5, he]⟩
  · rintro t hh ⟨tag, g4, g5⟩
    simp -implicitDefEqProofs [g4, g5]
    rfl
end Go.Proofs.Ytbgifnlaaophcaa

/- Contracts: log.Same. No condition. -/
set_option linter.unusedSimpArgs false
set_option linter.unusedVariables false
set_option maxRecDepth 10000
namespace Go.Proofs.Ytbgifnlaaophcaa
open Go Go.Rw Go.Proofs
-- a goal is never to be run by the elaborator
attribute [local irreducible] awp aops aop aopsE aeff

def EqrI (a b : List PRec) (t : Nat → AV) (_ : Nat → Option (List AV)) : Prop := ∃ k : Nat, t 15 = .sl .no (eRs a) ∧ t 1 = .sl .no (eRs b) ∧ t 2 = .fn 101 [] ∧ t 16 = .v (.int .i64 a.length) ∧ t 17 = .v (.int .i64 k) ∧ k ≤ a.length ∧ sameRs (a.drop k) (b.drop k) = sameRs a b

theorem sameRs_len : ∀ {a b : List PRec}, a.length ≠ b.length → sameRs a b = false
  | [], [], h => absurd rfl h
  | [], _ :: _, _ => rfl
  | _ :: _, [], _ => rfl
  | x :: a, y :: b, h => by
    have := sameRs_len (a := a) (b := b) (by simp at h; exact h)
    simp [sameRs, this]

theorem equalf_recs (a b : List PRec) : ASpec Try.prog 105 [.sl .no (eRs a), .sl .no (eRs b), .fn 101 []] (· = .v (.bool (sameRs a b))) := by
  refine ASpec.of_awp Try.func105 (by kernel_rfl) rfl (by rw [Try.results105]) Try.ntmps105 ?_
  simp -implicitDefEqProofs
  intro h1 h2
  refine branch_dec (fun hb => ?_) (fun hb => ?_)
  · have hl : a.length = b.length := by omega
    simp -implicitDefEqProofs
    intro _
    refine loopK.intro (EqrI a b) (fun t => a.length - natOf (t 17)) ?_ ?_
    · exact ⟨0, by simp, by simp, by simp, by simp, by simp, by omega, by simp⟩
    rintro t hh ⟨k, g15, g1, g2, g16, g17, hk, he⟩
    simp -implicitDefEqProofs [g16, g17]
    refine branch_dec (fun hlt => ?_) (fun hlt => ?_)
    · have hlt : k < a.length := by omega
      have hlt2 : k < b.length := by omega
      obtain ⟨x, hx⟩ : ∃ x, a[k]? = some x := ⟨a[k], by simp [hlt]⟩
      obtain ⟨y, hy⟩ : ∃ y, b[k]? = some y := ⟨b[k], by simp [hlt2]⟩
      have hdx : a.drop k = x :: a.drop (k + 1) := by
        rw [List.drop_eq_getElem_cons hlt]; rw [List.getElem?_eq_getElem hlt] at hx; rw [Option.some.inj hx]
      have hdy : b.drop k = y :: b.drop (k + 1) := by
        rw [List.drop_eq_getElem_cons hlt2]; rw [List.getElem?_eq_getElem hlt2] at hy; rw [Option.some.inj hy]
      rw [hdx, hdy, sameRs] at he
      have hj1 : IntKind.i64.wrap ((k : Int) + 1) = (k : Int) + 1 := w64 (by omega) (by omega)
      simp -implicitDefEqProofs [g15, g17, hx, eRc]
      refine allocK.intro (fun b1 hb1 => ?_)
      simp -implicitDefEqProofs [g1, hy, eRc]
      refine allocK.intro (fun b2 hb2 => ?_)
      have hbb : ¬ b1 = b2 := by rintro rfl; simp at hb2
      have hbb' : ¬ b2 = b1 := fun h => hbb h.symm
      simp -implicitDefEqProofs [g2, hbb, hbb']
      refine CallK.with (logsame_spec x y) (by simp [eRc]) ?_
      simp -implicitDefEqProofs
      refine branch_intro (fun h3 => ?_) (fun h3 => ?_)
      · rw [h3, Bool.true_and] at he
        simp -implicitDefEqProofs [g17, hj1]
        exact ⟨⟨k + 1, by simp [g15], by simp [g1], by simp [g2], by simp [g16], by simp, by omega, he⟩, by omega⟩
      · rw [h3, Bool.false_and] at he
        simp -implicitDefEqProofs [← he]
    · have hk' : k = a.length := by omega
      subst hk'
      rw [List.drop_length, hl, List.drop_length, sameRs] at he
      simp -implicitDefEqProofs [← he]
  · have hr : sameRs a b = false := sameRs_len (by omega)
    simp -implicitDefEqProofs [hr]


theorem logSame_spec (a b : List PRec) : ASpec Try.prog 44 [.sl .no (eRs a), .sl .no (eRs b)] (· = .v (.bool (sameRs a b))) := by
  refine ASpec.of_awp Try.func44 (by kernel_rfl) rfl (by rw [Try.results44]) Try.ntmps44 ?_
  simp -implicitDefEqProofs
  refine CallK.eq (equalf_recs a b) ?_
  simp -implicitDefEqProofs
end Go.Proofs.Ytbgifnlaaophcaa

/- Plain: whether a record can be, told otherwise. -/
set_option linter.unusedSimpArgs false
set_option linter.unusedVariables false
set_option maxRecDepth 10000
namespace Go.Proofs.Ytbgifnlaaophcaa
open Go Go.Rw Go.Proofs

def chg9 (r : PRec) : Bool := rightV r.cell.change && !decide (r.cell.change = zV)
def right9F (r : PRec) : Bool :=
  if r.kind = 1 then rightV r.view && checkE (-1) [r.entry] && sameR ⟨0, zV, r.cell, zE, r.n⟩ zR
  else if r.kind = 2 then rightV r.view && chg9 r && decide (0 ≤ r.cell.node ∧ r.cell.node ≤ 5) && sameR ⟨0, zV, zC, r.entry, r.n⟩ zR
  else if r.kind = 3 then rightV r.view && sameR ⟨0, zV, r.cell, r.entry, r.n⟩ zR
  else if r.kind = 4 ∨ r.kind = 6 then decide (1 ≤ r.n ∧ r.n ≤ 1000000) && sameR ⟨0, r.view, r.cell, r.entry, 0⟩ zR
  else if r.kind = 5 then rightV r.view && chg9 r && sameR ⟨0, zV, ⟨r.cell.node, zV⟩, r.entry, r.n⟩ zR
  else false
theorem sizeV_pos {v : PView} (h : rightV v = true) : 0 < sizeV v ↔ ¬ v = zV := by
  have e : sizeV v = (popN 64 v.add.toNat : Int) + popN 64 v.del.toNat := by unfold sizeV; rfl
  have h0 : 0 ≤ sizeV v := by rw [e]; omega
  have hz := sizeV_zero h
  obtain ⟨a, b⟩ := v
  constructor
  · rintro h1 h2
    cases h2
    have := hz.2 ⟨rfl, rfl⟩
    omega
  · intro h1
    have : ¬ sizeV ⟨a, b⟩ = 0 := fun h2 => h1 (by obtain ⟨h3, h4⟩ := hz.1 h2; simp at h3 h4; rw [h3, h4]; rfl)
    omega
theorem right9_eq (r : PRec) : right9F r = rightR r := by
  obtain ⟨k, v, ⟨cn, cc⟩, e, n⟩ := r
  rw [Bool.eq_iff_iff]
  unfold right9F rightR chg9
  by_cases k1 : k = 1
  · subst k1
    simp [sameR_iff, sameE_zero, zR, bareR, sameE_iff]
    constructor
    · rintro ⟨⟨h1, h2⟩, h3, h4⟩
      cases h3
      exact ⟨⟨⟨⟨⟨rfl, h4⟩, h1⟩, rightV_zero⟩, by omega, by omega⟩, h2⟩
    · rintro ⟨⟨⟨⟨⟨h3, h4⟩, h1⟩, _⟩, _⟩, h2⟩
      exact ⟨⟨h1, h2⟩, h3, h4⟩
  by_cases k2 : k = 2
  · subst k2
    by_cases hc : rightV cc = true
    · have hp := sizeV_pos hc
      simp [sameR_iff, sameE_zero, zR, bareR, sameE_iff, hc, hp]
      constructor
      · rintro ⟨⟨⟨h1, h2⟩, h3, h4⟩, h5, h6⟩
        exact ⟨⟨⟨⟨h5, h6⟩, h1⟩, h3, by omega⟩, h2⟩
      · rintro ⟨⟨⟨⟨h5, h6⟩, h1⟩, h3, h4⟩, h2⟩
        exact ⟨⟨⟨h1, h2⟩, h3, by omega⟩, h5, h6⟩
    · simp [hc]
  by_cases k3 : k = 3
  · subst k3
    simp [sameR_iff, sameE_zero, zR, bareR, sameE_iff]
    constructor
    · rintro ⟨h1, h2, h3⟩
      cases h2
      exact ⟨⟨⟨⟨rfl, h3⟩, h1⟩, rightV_zero⟩, by omega, by omega⟩
    · rintro ⟨⟨⟨⟨h2, h3⟩, h1⟩, _⟩, _⟩
      exact ⟨h1, h2, h3⟩
  by_cases k46 : k = 4 ∨ k = 6
  · have k5 : ¬ k = 5 := by omega
    simp [sameR_iff, sameE_zero, zR, bareR, sameE_iff, k1, k2, k3, k5, k46]
    constructor
    · rintro ⟨h1, h2, h3, h4⟩
      cases h3
      cases h2
      exact ⟨⟨⟨⟨⟨by omega, rfl, rfl, h4⟩, rightV_zero⟩, rightV_zero⟩, by omega, by omega⟩, h1⟩
    · rintro ⟨⟨⟨⟨⟨_, h2, h3, h4⟩, _⟩, _⟩, _⟩, h1⟩
      exact ⟨h1, h2, h3, h4⟩
  by_cases k5 : k = 5
  · subst k5
    by_cases hc : rightV cc = true
    · have hp := sizeV_pos hc
      simp [sameR_iff, sameE_zero, zR, bareR, sameE_iff, hc, hp]
      constructor
      · rintro ⟨⟨h1, h2⟩, h3, h4⟩
        cases h3
        exact ⟨⟨⟨⟨rfl, h4⟩, h1⟩, by omega, by omega⟩, h2⟩
      · rintro ⟨⟨⟨⟨rfl, h4⟩, h1⟩, _⟩, h2⟩
        exact ⟨⟨h1, h2⟩, rfl, h4⟩
    · simp [hc]
  · have : ¬ (1 ≤ k ∧ k ≤ 6) := by omega
    simp only [if_neg k1, if_neg k2, if_neg k3, if_neg k46, if_neg k5, decide_eq_false this, Bool.false_and]
end Go.Proofs.Ytbgifnlaaophcaa

/- Contracts: records, told otherwise: alike, Same. No condition. -/
set_option linter.unusedSimpArgs false
set_option linter.unusedVariables false
set_option maxRecDepth 10000
namespace Go.Proofs.Ytbgifnlaaophcaa
open Go Go.Rw Go.Proofs
-- a goal is never to be run by the elaborator
attribute [local irreducible] awp aops aop aopsE aeff

theorem alike9_spec (a b : PRec) (ha : fitR a) (hb : fitR b) : ASpec Try.prog 104 [.agg (eRc a), .agg (eRc b)] (· = .v (.bool (sameR a b))) := by
  refine ASpec.of_awp Try.func104 (by kernel_rfl) rfl (by rw [Try.results104]) Try.ntmps104 ?_
  simp -implicitDefEqProofs [eRc]
  refine allocK.intro (fun b1 hb1 => ?_)
  simp -implicitDefEqProofs
  refine allocK.intro (fun b2 hb2 => ?_)
  have hbb : ¬ b1 = b2 := by rintro rfl; simp at hb2
  have hbb' : ¬ b2 = b1 := fun h => hbb h.symm
  by_cases h1 : a.kind = b.kind
  · by_cases h2 : a.view.add = b.view.add ∧ a.view.del = b.view.del
    · obtain ⟨h2, h3⟩ := h2
      by_cases h4 : a.cell.node = b.cell.node ∧ a.cell.change.add = b.cell.change.add ∧ a.cell.change.del = b.cell.change.del
      · obtain ⟨h4, h5, h6⟩ := h4
        by_cases h7 : a.n = b.n
        · simp -implicitDefEqProofs [hbb, hbb', h1, h2, h3, h4, h5, h6, h7]
          refine CallK.with (alike7_spec a.entry b.entry ha hb) (by simp [eE]) ?_
          simp -implicitDefEqProofs [hbb, hbb', h1, h2, h3, h4, h5, h6, h7, sameR]
        · simp -implicitDefEqProofs [hbb, hbb', h1, h2, h3, h4, h5, h6, h7, sameR]
      · have h4' : sameR a b = false := by
          by_cases q : a.cell.node = b.cell.node
          · by_cases q2 : a.cell.change.add = b.cell.change.add
            · have q3 : ¬ a.cell.change.del = b.cell.change.del := fun q3 => h4 ⟨q, q2, q3⟩
              simp [sameR, q3]
            · simp [sameR, q2]
          · simp [sameR, q]
        have h4'' : (a.cell.node == b.cell.node && (a.cell.change.add == b.cell.change.add && a.cell.change.del == b.cell.change.del)) = false := by simpa using h4
        simp -implicitDefEqProofs [hbb, hbb', h1, h2, h3, h4', h4'']
    · have h4' : sameR a b = false := by
        by_cases q : a.view.add = b.view.add
        · have q3 : ¬ a.view.del = b.view.del := fun q3 => h2 ⟨q, q3⟩
          simp [sameR, q3]
        · simp [sameR, q]
      have h4'' : (a.view.add == b.view.add && a.view.del == b.view.del) = false := by simpa using h2
      simp -implicitDefEqProofs [hbb, hbb', h1, h4', h4'']
  · simp -implicitDefEqProofs [hbb, hbb', h1, sameR]

def S9I (a b : List PRec) (t : Nat → AV) (_ : Nat → Option (List AV)) : Prop := ∃ k : Nat, t 0 = .sl .no (eRs a) ∧ t 1 = .sl .no (eRs b) ∧ t 12 = eI a.length ∧ t 13 = eI k ∧ k ≤ a.length ∧ sameRs (a.drop k) (b.drop k) = sameRs a b
theorem same9_spec (a b : List PRec) (ha : ∀ x ∈ a, fitR x) (hb : ∀ x ∈ b, fitR x) : ASpec Try.prog 41 [.sl .no (eRs a), .sl .no (eRs b)] (· = .v (.bool (sameRs a b))) := by
  refine ASpec.of_awp Try.func41 (by kernel_rfl) rfl (by rw [Try.results41]) Try.ntmps41 ?_
  simp -implicitDefEqProofs
  intro h1 h2
  refine branch_dec (fun hb' => ?_) (fun hb' => ?_)
  · have hl : a.length = b.length := by omega
    simp -implicitDefEqProofs
    intro _
    refine loopK.intro (S9I a b) (fun t => a.length - natOf (t 13)) ?_ ?_
    · exact ⟨0, by simp, by simp, by simp, by simp, by omega, by simp⟩
    rintro t hh ⟨k, g0, g1, g12, g13, hk, he⟩
    simp -implicitDefEqProofs [g12, g13]
    refine branch_dec (fun hlt => ?_) (fun hlt => ?_)
    · have hlt : k < a.length := by omega
      have hlt2 : k < b.length := by omega
      obtain ⟨x, hx⟩ : ∃ x, a[k]? = some x := ⟨a[k], by simp [hlt]⟩
      obtain ⟨y, hy⟩ : ∃ y, b[k]? = some y := ⟨b[k], by simp [hlt2]⟩
      have hdx : a.drop k = x :: a.drop (k + 1) := by
        rw [List.drop_eq_getElem_cons hlt]; rw [List.getElem?_eq_getElem hlt] at hx; rw [Option.some.inj hx]
      have hdy : b.drop k = y :: b.drop (k + 1) := by
        rw [List.drop_eq_getElem_cons hlt2]; rw [List.getElem?_eq_getElem hlt2] at hy; rw [Option.some.inj hy]
      rw [hdx, hdy, sameRs] at he
      have hj1 : IntKind.i64.wrap ((k : Int) + 1) = (k : Int) + 1 := w64 (by omega) (by omega)
      simp -implicitDefEqProofs [g13]
      refine regionK.intro 10 follows_mixed (by kernel_rfl) ?_
      simp -implicitDefEqProofs [g0, g1, g13, hx, hy, eRc]
      have hsp := alike9_spec x y (ha x (List.mem_of_getElem? hx)) (hb y (List.mem_of_getElem? hy))
      refine CallQ.with hsp (by simp [eRc]) ?_
      simp -implicitDefEqProofs
      refine branch_intro (fun h3 => ?_) (fun h3 => ?_)
      · rw [h3, Bool.true_and] at he
        simp -implicitDefEqProofs [g13, hj1]
        exact ⟨⟨k + 1, by simp [g0], by simp [g1], by simp [g12], by simp, by omega, he⟩, by omega⟩
      · rw [h3, Bool.false_and] at he
        simp -implicitDefEqProofs [← he]
    · have hk' : k = a.length := by omega
      subst hk'
      rw [List.drop_length, hl, List.drop_length, sameRs] at he
      simp -implicitDefEqProofs [← he]
  · have hr : sameRs a b = false := sameRs_len (by omega)
    simp -implicitDefEqProofs [hr]

theorem fitR_zero : fitR zR := by simp [fitR, zR, zE]
theorem seq_cut {P : Program} {x y : Code} {n : Nat} {t : Nat → AV} {h : Nat → Option (List AV)} {Q : AExit → ASt → Prop} (M : (Nat → AV) → (Nat → Option (List AV)) → Prop) (hx : awp P x (cutQ M n Q) ⟨n, t, h⟩)
    (hy : ∀ t h, M t h → awp P y Q ⟨n, t, h⟩) : awp P (.seq x y) Q ⟨n, t, h⟩ := by
  rw [awp_seqQ]
  exact awp_mono x (cutQ_use hy) hx
theorem chg_ne (v : PView) : (!v.add == 0 || !v.del == 0) = !decide (v = zV) := by
  obtain ⟨a, b⟩ := v
  by_cases h1 : a = 0 <;> by_cases h2 : b = 0 <;> simp [zV, h1, h2]
def R9N (r : PRec) (b1 : Nat) (t : Nat → AV) (h : Nat → Option (List AV)) : Prop := t 1 = .ptr b1 0 ∧ h b1 = some (eRc r) ∧ t 3 = .v (.bool (rightV r.view)) ∧ t 4 = .v (.bool (chg9 r)) ∧ t 5 = .v (.bool (decide (0 ≤ r.cell.node ∧ r.cell.node ≤ 5)))
def R9O (r : PRec) (b1 : Nat) (t : Nat → AV) (h : Nat → Option (List AV)) : Prop := t 1 = .ptr b1 0 ∧ h b1 = some (eRc r) ∧ t 3 = .v (.bool (rightV r.view)) ∧ t 4 = .v (.bool (chg9 r)) ∧ t 5 = .v (.bool (decide (0 ≤ r.cell.node ∧ r.cell.node ≤ 5))) ∧ t 6 = .v (.bool (decide (1 ≤ r.n ∧ r.n ≤ 1000000)))
def R9M (r : PRec) (b1 : Nat) (t : Nat → AV) (h : Nat → Option (List AV)) : Prop := t 1 = .ptr b1 0 ∧ h b1 = some (eRc r) ∧ t 3 = .v (.bool (rightV r.view)) ∧ t 4 = .v (.bool (chg9 r))
theorem right9_spec (r : PRec) (hf : fitR r) : ASpec Try.prog 40 [.agg (eRc r)] (· = .v (.bool (right9F r))) := by
  refine ASpec.of_awp Try.func40 (by kernel_rfl) rfl (by rw [Try.results40]) Try.ntmps40 ?_
  simp -implicitDefEqProofs [eRc]
  refine allocK.intro (fun b1 hb1 => ?_)
  simp -implicitDefEqProofs
  refine regionK.cut (R9M r b1) ?_ ?_
  · refine regionK.intro 15 follows_mixed (by kernel_rfl) ?_
    simp -implicitDefEqProofs
    refine CallQ.with (right4_spec r.view) (by simp [eV]) ?_
    simp -implicitDefEqProofs
    refine CallQ.with (right4_spec r.cell.change) (by simp [eV]) ?_
    cases hc : rightV r.cell.change
    · simp -implicitDefEqProofs
      exact ⟨by simp, by simp [eRc], by simp, by simp [chg9, hc]⟩
    · simp -implicitDefEqProofs
      exact ⟨by simp, by simp [eRc], by simp, by simp [chg9, hc]; exact chg_ne _⟩
  · rintro t h ⟨g1, gh, g3, g4⟩
    refine seq_cut (R9N r b1) ?_ ?_
    · rw [eRc] at gh
      by_cases n1 : 0 ≤ r.cell.node
      · simp -implicitDefEqProofs [g1, gh, n1]
        exact ⟨by simp [g1], by simp [gh, eRc], by simp [g3], by simp [g4], by simp [n1]⟩
      · simp -implicitDefEqProofs [g1, gh, n1]
        exact ⟨by simp [g1], by simp [gh, eRc], by simp [g3], by simp [g4], by simp [n1]⟩
    rintro t h ⟨g1, gh, g3, g4, g5⟩
    refine seq_cut (R9O r b1) ?_ ?_
    · rw [eRc] at gh
      by_cases n1 : 1 ≤ r.n
      · simp -implicitDefEqProofs [g1, gh, n1]
        exact ⟨by simp [g1], by simp [gh, eRc], by simp [g3], by simp [g4], by simp [g5], by simp [n1]⟩
      · simp -implicitDefEqProofs [g1, gh, n1]
        exact ⟨by simp [g1], by simp [gh, eRc], by simp [g3], by simp [g4], by simp [g5], by simp [n1]⟩
    rintro t h ⟨g1, gh, g3, g4, g5, g6⟩
    rw [eRc] at gh
    simp -implicitDefEqProofs [g1, gh, g3, g4, g5, g6]
    refine allocK.intro (fun b2 hb2 => ?_)
    have n1 : ¬ b1 = b2 := by rintro rfl; rw [gh] at hb2; simp at hb2
    have n1' : ¬ b2 = b1 := fun h => n1 h.symm
    by_cases k1 : r.kind = 1
    · have e : right9F r = (rightV r.view && checkE (-1) [r.entry] && sameR ⟨0, zV, r.cell, zE, r.n⟩ zR) := by unfold right9F; rw [if_pos k1]
      rw [e]
      cases hv : rightV r.view
      · simp -implicitDefEqProofs [g1, gh, g3, g4, g5, g6, n1, n1', k1, hv]
      · simp -implicitDefEqProofs [g1, gh, g3, g4, g5, g6, n1, n1', k1, hv]
        refine CallK.with (check7_spec [r.entry]) (by simp [eEs, eE]) ?_
        cases hE : checkE (-1) [r.entry]
        · simp -implicitDefEqProofs [g1, gh, g3, g4, g5, g6, n1, n1', k1, hv]
        · simp -implicitDefEqProofs [g1, gh, g3, g4, g5, g6, n1, n1', k1, hv]
          refine CallK.with (alike9_spec ⟨0, zV, r.cell, zE, r.n⟩ zR (by first | exact hf | exact fitR_zero) fitR_zero) (by simp [eRc, zR, zV, zC, zE]) ?_
          simp -implicitDefEqProofs
    by_cases k2 : r.kind = 2
    · have e : right9F r = (rightV r.view && chg9 r && decide (0 ≤ r.cell.node ∧ r.cell.node ≤ 5) && sameR ⟨0, zV, zC, r.entry, r.n⟩ zR) := by unfold right9F; rw [if_neg k1, if_pos k2]
      rw [e]
      cases hv : rightV r.view
      · simp -implicitDefEqProofs [g1, gh, g3, g4, g5, g6, n1, n1', k1, k2, hv]
      cases hc : chg9 r
      · simp -implicitDefEqProofs [g1, gh, g3, g4, g5, g6, n1, n1', k1, k2, hv, hc]
      by_cases hn : 0 ≤ r.cell.node ∧ r.cell.node ≤ 5
      · rw [decide_eq_true hn] at g5 ⊢
        simp -implicitDefEqProofs [g1, gh, g3, g4, g5, g6, n1, n1', k1, k2, hv, hc]
        refine CallK.with (alike9_spec ⟨0, zV, zC, r.entry, r.n⟩ zR (by first | exact hf | exact fitR_zero) fitR_zero) (by simp [eRc, zR, zV, zC, zE]) ?_
        simp -implicitDefEqProofs
      · rw [decide_eq_false hn] at g5 ⊢
        simp -implicitDefEqProofs [g1, gh, g3, g4, g5, g6, n1, n1', k1, k2, hv, hc]
    by_cases k3 : r.kind = 3
    · have e : right9F r = (rightV r.view && sameR ⟨0, zV, r.cell, r.entry, r.n⟩ zR) := by unfold right9F; rw [if_neg k1, if_neg k2, if_pos k3]
      rw [e]
      cases hv : rightV r.view
      · simp -implicitDefEqProofs [g1, gh, g3, g4, g5, g6, n1, n1', k1, k2, k3, hv]
      · simp -implicitDefEqProofs [g1, gh, g3, g4, g5, g6, n1, n1', k1, k2, k3, hv]
        refine CallK.with (alike9_spec ⟨0, zV, r.cell, r.entry, r.n⟩ zR (by first | exact hf | exact fitR_zero) fitR_zero) (by simp [eRc, zR, zV, zC, zE]) ?_
        simp -implicitDefEqProofs
    by_cases k4 : r.kind = 4
    · have e : right9F r = (decide (1 ≤ r.n ∧ r.n ≤ 1000000) && sameR ⟨0, r.view, r.cell, r.entry, 0⟩ zR) := by unfold right9F; rw [if_neg k1, if_neg k2, if_neg k3, if_pos (.inl k4)]
      rw [e]
      by_cases hn : 1 ≤ r.n ∧ r.n ≤ 1000000
      · rw [decide_eq_true hn] at g6 ⊢
        simp -implicitDefEqProofs [g1, gh, g3, g4, g5, g6, n1, n1', k1, k2, k3, k4]
        refine CallK.with (alike9_spec ⟨0, r.view, r.cell, r.entry, 0⟩ zR (by first | exact hf | exact fitR_zero) fitR_zero) (by simp [eRc, zR, zV, zC, zE]) ?_
        simp -implicitDefEqProofs
      · rw [decide_eq_false hn] at g6 ⊢
        simp -implicitDefEqProofs [g1, gh, g3, g4, g5, g6, n1, n1', k1, k2, k3, k4]
    by_cases k6 : r.kind = 6
    · have e : right9F r = (decide (1 ≤ r.n ∧ r.n ≤ 1000000) && sameR ⟨0, r.view, r.cell, r.entry, 0⟩ zR) := by unfold right9F; rw [if_neg k1, if_neg k2, if_neg k3, if_pos (.inr k6)]
      rw [e]
      by_cases hn : 1 ≤ r.n ∧ r.n ≤ 1000000
      · rw [decide_eq_true hn] at g6 ⊢
        simp -implicitDefEqProofs [g1, gh, g3, g4, g5, g6, n1, n1', k1, k2, k3, k4, k6]
        refine CallK.with (alike9_spec ⟨0, r.view, r.cell, r.entry, 0⟩ zR (by first | exact hf | exact fitR_zero) fitR_zero) (by simp [eRc, zR, zV, zC, zE]) ?_
        simp -implicitDefEqProofs
      · rw [decide_eq_false hn] at g6 ⊢
        simp -implicitDefEqProofs [g1, gh, g3, g4, g5, g6, n1, n1', k1, k2, k3, k4, k6]
    by_cases k5 : r.kind = 5
    · have e : right9F r = (rightV r.view && chg9 r && sameR ⟨0, zV, ⟨r.cell.node, zV⟩, r.entry, r.n⟩ zR) := by unfold right9F; rw [if_neg k1, if_neg k2, if_neg k3, if_neg (by omega), if_pos k5]
      rw [e]
      cases hv : rightV r.view
      · simp -implicitDefEqProofs [g1, gh, g3, g4, g5, g6, n1, n1', k1, k2, k3, k4, k6, k5, hv]
      cases hc : chg9 r
      · simp -implicitDefEqProofs [g1, gh, g3, g4, g5, g6, n1, n1', k1, k2, k3, k4, k6, k5, hv, hc]
      · simp -implicitDefEqProofs [g1, gh, g3, g4, g5, g6, n1, n1', k1, k2, k3, k4, k6, k5, hv, hc]
        refine CallK.with (alike9_spec ⟨0, zV, ⟨r.cell.node, zV⟩, r.entry, r.n⟩ zR (by first | exact hf | exact fitR_zero) fitR_zero) (by simp [eRc, zR, zV, zC, zE]) ?_
        simp -implicitDefEqProofs
    have e : right9F r = false := by unfold right9F; rw [if_neg k1, if_neg k2, if_neg k3, if_neg (by omega), if_neg k5]
    rw [e]
    simp -implicitDefEqProofs [g1, gh, g3, g4, g5, g6, n1, n1', k1, k2, k3, k4, k6, k5]
end Go.Proofs.Ytbgifnlaaophcaa
