/- Parts of the proof: what is used by the law. No condition. -/
import Derived.Test.YtjbbfiagijjdoaaGreatRows
import Derived.Test.YtjbbfiagijjdoaaGreatGD
set_option linter.unusedSimpArgs false
set_option linter.unusedVariables false
/- Contracts: the laws on replicas, what is alive and what can be. No condition. -/
set_option linter.unusedSimpArgs false
set_option linter.unusedVariables false
set_option maxRecDepth 10000
namespace Go.Proofs.YtjbbfiagijjdoaaGreat
open Go Go.Rw Go.Proofs
-- a goal is never to be run by the elaborator
attribute [local irreducible] awp aops aop aopsE aeff

def v7 : PView := ⟨7, 0⟩
def putM (n : Int) : PMsg := ⟨3, 1, 2, 1, 1, v7, [], [⟨1, ⟨n, 0⟩, 4616189618054758400⟩]⟩
theorem put13_spec (n : Int) : ASpec Tryz.prog 69 [eI n] (· = .agg (eM (putM n))) := by
  refine ASpec.of_awp Tryz.func69 (by kernel_rfl) rfl (by rw [Tryz.results69]) Tryz.ntmps69 ?_
  simp -implicitDefEqProofs
  refine allocK.intro (fun b1 hb1 => ?_)
  simp -implicitDefEqProofs [eM, putM, v7, eEs, eE]
theorem rightV_v7 : rightV v7 = true := by decide
theorem right_put : rightM (putM 3) = true := by decide
theorem ok7 : OkT 0 (newS v7) := okT_new rightV_v7
theorem wrote7 : wroteS (newS v7) (putM 3) = [recE v7 ⟨1, ⟨3, 0⟩, 4616189618054758400⟩] := by rfl
theorem quiet7 : wroteS (applyS (newS v7) (recE v7 ⟨1, ⟨3, 0⟩, 4616189618054758400⟩)) (putM 3) = [] := by
  have := behind_quiet ok7 right_put (by decide)
  unfold behindS at this
  rw [wrote7] at this
  exact this
theorem alive13_spec : ASpec Tryz.prog 18 [] (· = .v (.bool true)) := by
  refine ASpec.of_awp Tryz.func18 (by kernel_rfl) rfl (by rw [Tryz.results18]) Tryz.ntmps18 ?_
  simp -implicitDefEqProofs
  refine CallK.with (new_spec v7) (by simp [eV, v7]) ?_
  simp -implicitDefEqProofs [eSt, v7]
  refine allocK.intro (fun b1 hb1 => ?_)
  simp -implicitDefEqProofs
  refine regionK.modes [] [.q, .q, .q, .q, .q, .q, .q, .l, .r, .s, .r] follows_mixed (by kernel_rfl) ?_
  simp -implicitDefEqProofs
  refine CallQ.with (put13_spec 3) rfl ?_
  have hs1 := serve_spec 2 (newS v7) (putM 3) (ok7.ok (by omega)) rightV_v7 (by simp [putM]) (by simp [putM])
  have e1 := wrote7
  have e2 : servable 2 (putM 3) = true := by decide
  simp -implicitDefEqProofs
  refine CallQ.with hs1 (by simp [newS, v7, putM, eSt, eM]) ?_
  rw [serveA, recsS, answerS, e2, if_pos rfl, if_pos rfl, e1]
  have ha := tell_answers (s := newS v7) e2
  generalize tellS 2 (newS v7) (putM 3) = m1 at *
  simp -implicitDefEqProofs [eM]
  refine allocK.intro (fun b2 hb2 => ?_)
  have n12 : ¬ b1 = b2 := by rintro rfl; simp at hb2
  have n21 : ¬ b2 = b1 := fun h => n12 h.symm
  simp -implicitDefEqProofs [n12, n21]
  refine regionK.intro 13 follows_mixed (by kernel_rfl) ?_
  simp -implicitDefEqProofs [n12, n21]
  refine CallQ.with (put13_spec 3) rfl ?_
  simp -implicitDefEqProofs [n12, n21]
  refine CallQ.with (msg_answers (putM 3) m1) (by simp [eM]) ?_
  rw [ha]
  simp -implicitDefEqProofs [n12, n21]
  have hc0 : okCh (cellsS (newS v7) v7) := ok7.cellsOk v7
  have hap := apply_spec (newS v7) (recE v7 ⟨1, ⟨3, 0⟩, 4616189618054758400⟩) (ok7.ok (by omega)) rightV_v7 (ok7.news (by decide))
  have hr1 : rightR (recE v7 ⟨1, ⟨3, 0⟩, 4616189618054758400⟩) = true := by decide
  have ok8 := okT_apply ok7 hr1
  have e3 := quiet7
  generalize applyS (newS v7) (recE v7 ⟨1, ⟨3, 0⟩, 4616189618054758400⟩) = s1 at *
  have hs2 := serve_spec 2 s1 (putM 3) (ok8.ok (by omega)) rightV_v7 (by simp [putM]) (by simp [putM])
  refine regionK.modes [] [.q, .q, .q, .q, .q, .q, .q, .q, .q, .q, .q, .l, .r, .s, .r] follows_mixed (by kernel_rfl) ?_
  simp -implicitDefEqProofs [n12, n21, eRs, eRc]
  refine CallQ.with hap (by simp [newS, v7, eSt, eRc]) ?_
  simp -implicitDefEqProofs [n12, n21]
  refine CallQ.with (put13_spec 3) rfl ?_
  simp -implicitDefEqProofs [n12, n21]
  refine CallQ.with hs2 (by simp) ?_
  rw [serveA, recsS, answerS, e2, if_pos rfl, if_pos rfl, e3]
  generalize tellS 2 s1 (putM 3) = m2 at *
  simp -implicitDefEqProofs [n12, n21, eM]
  refine allocK.intro (fun b3 hb3 => ?_)
  have n13 : ¬ b1 = b3 := by rintro rfl; simp [n12] at hb3
  have n31 : ¬ b3 = b1 := fun h => n13 h.symm
  have n23 : ¬ b2 = b3 := by rintro rfl; simp at hb3
  have n32 : ¬ b3 = b2 := fun h => n23 h.symm
  simp -implicitDefEqProofs [n12, n21, n13, n31, n23, n32]
  refine regionK.modes [] [.q, .q, .q, .q, .q, .q, .q, .l, .r, .s, .r] follows_mixed (by kernel_rfl) ?_
  simp -implicitDefEqProofs [n12, n21, n13, n31, n23, n32]
  refine CallQ.with (put13_spec 3) rfl ?_
  have hs3 := serve_spec 1 (newS v7) (putM 3) (ok7.ok (by omega)) rightV_v7 (by simp [putM]) (by simp [putM])
  have e4 : servable 1 (putM 3) = false := by decide
  simp -implicitDefEqProofs [n12, n21, n13, n31, n23, n32]
  refine CallQ.with hs3 (by simp [newS, v7, putM, eSt, eM]) ?_
  rw [serveA, recsS, answerS, e4]
  simp -implicitDefEqProofs [n12, n21, n13, n31, n23, n32, eM, zM]
  refine allocK.intro (fun b4 hb4 => ?_)
  have n14 : ¬ b1 = b4 := by rintro rfl; simp [n12, n13] at hb4
  have n41 : ¬ b4 = b1 := fun h => n14 h.symm
  have n24 : ¬ b2 = b4 := by rintro rfl; simp [n23] at hb4
  have n42 : ¬ b4 = b2 := fun h => n24 h.symm
  have n34 : ¬ b3 = b4 := by rintro rfl; simp at hb4
  have n43 : ¬ b4 = b3 := fun h => n34 h.symm
  simp -implicitDefEqProofs [n12, n21, n13, n31, n23, n32, n14, n41, n24, n42, n34, n43]
theorem take_all {l : List PRec} {k : Nat} {x : PRec} (hx : l[k]? = some x) (hp : rightR x = true) (hn : ∀ y ∈ l.take k, rightR y = true) : ∀ y ∈ l.take (k + 1), rightR y = true := by
  intro y hy
  rw [List.take_add_one, hx] at hy
  rcases List.mem_append.1 hy with h | h
  · exact hn y h
  · simp at h; rw [h]; exact hp
def R13I (l : List PRec) (b1 : Nat) (q : PMsg) (me : Int) (t : Nat → AV) (h : Nat → Option (List AV)) : Prop := ∃ k : Nat, t 0 = eI me ∧ t 5 = .ptr b1 0 ∧ t 9 = .sl .no (eRs l) ∧ t 10 = eI l.length ∧ t 11 = eI k ∧ k ≤ l.length ∧ h b1 = some (eM q) ∧ ∀ r ∈ l.take k, rightR r = true
def R13M (l : List PRec) (b1 : Nat) (q : PMsg) (me : Int) (t : Nat → AV) (h : Nat → Option (List AV)) : Prop := t 0 = eI me ∧ t 5 = .ptr b1 0 ∧ h b1 = some (eM q) ∧ ∀ r ∈ l, rightR r = true
theorem right13_spec (me : Int) (l : List PRec) (q : PMsg) (hf : ∀ r ∈ l, fitR r) (hl : l.length ≤ 1000000000) : ASpec Tryz.prog 19 [eI me, .sl .no (eRs l), .agg (eM q)] (· = .v (.bool (l.all rightR && (decide (0 ≤ me) && decide (me < 6) && rightM q)))) := by
  refine ASpec.of_awp Tryz.func19 (by kernel_rfl) rfl (by rw [Tryz.results19]) Tryz.ntmps19 ?_
  simp -implicitDefEqProofs [eM]
  refine allocK.intro (fun b1 hb1 => ?_)
  simp -implicitDefEqProofs
  intro _
  refine loopK.post (R13I l b1 q me) (fun t => l.length - natOf (t 11)) (R13M l b1 q me) ?_ ?_ ?_
  · exact ⟨0, by simp, by simp, by simp, by simp, by simp, by omega, by simp [eM], by simp⟩
  · rintro t hh ⟨k, g0, g5, g9, g10, g11, hk, e1, hr⟩
    by_cases hlt : k < l.length
    · have hlt' : (k : Int) < (l.length : Int) := by omega
      have hw : IntKind.i64.wrap ((k : Int) + 1) = ((k + 1 : Nat) : Int) := by rw [w64 (by omega) (by omega)]; omega
      obtain ⟨r, hx⟩ : ∃ r, l[k]? = some r := ⟨l[k], by simp [hlt]⟩
      have hrs := right9r_spec r (hf r (List.mem_of_getElem? hx))
      simp -implicitDefEqProofs [g9, g10, g11, hlt', hx, eRc]
      refine allocK.intro (fun b2 hb2 => ?_)
      have n12 : ¬ b1 = b2 := by rintro rfl; rw [e1] at hb2; simp at hb2
      have n21 : ¬ b2 = b1 := fun h => n12 h.symm
      simp -implicitDefEqProofs [n12, n21]
      refine CallK.with hrs (by simp [eRc]) ?_
      cases hi : rightR r
      · have hall : l.all rightR = false := by
          rw [Bool.eq_false_iff]
          intro h
          rw [List.all_eq_true] at h
          have := h r (List.mem_of_getElem? hx)
          rw [hi] at this; simp at this
        simp -implicitDefEqProofs [hall]
      · simp -implicitDefEqProofs [g11, hw, n12, n21]
        exact ⟨⟨k + 1, by simp [g0], by simp [g5], by simp [g9], by simp [g10], by simp, by omega, by simp [n12, e1], take_all hx hi hr⟩, by omega⟩
    · have hlt' : ¬ (k : Int) < (l.length : Int) := by omega
      rw [List.take_of_length_le (by omega)] at hr
      simp -implicitDefEqProofs [g10, g11, hlt']
      exact ⟨g0, g5, e1, hr⟩
  rintro t hh ⟨g0, g5, e1, hr⟩
  rw [eM] at e1
  have hall : l.all rightR = true := by rw [List.all_eq_true]; exact hr
  by_cases h1 : 0 ≤ me
  · by_cases h2 : me < 6
    · simp -implicitDefEqProofs [g0, g5, e1, h1, h2, hall]
      refine CallK.with (right11_spec q) (by simp [eM]) ?_
      simp -implicitDefEqProofs
      simp [hall, h1, h2]
    · simp -implicitDefEqProofs [g0, g5, e1, h1, h2, hall]
  · simp -implicitDefEqProofs [g0, g5, e1, h1, hall]
end Go.Proofs.YtjbbfiagijjdoaaGreat

/- Contracts: the state behind records. No condition. -/
set_option linter.unusedSimpArgs false
set_option linter.unusedVariables false
set_option maxRecDepth 10000
namespace Go.Proofs.YtjbbfiagijjdoaaGreat
open Go Go.Rw Go.Proofs
-- a goal is never to be run by the elaborator
attribute [local irreducible] awp aops aop aopsE aeff

def FoI (v : PView) (l : List PRec) (b2 b3 : Nat) (t : Nat → AV) (h : Nat → Option (List AV)) : Prop := ∃ k : Nat, t 4 = .ptr b2 0 ∧ t 5 = .ptr b3 0 ∧ t 10 = .sl .no (eRs l) ∧ t 11 = eI l.length ∧ t 12 = eI k ∧ k ≤ l.length ∧ (∃ z, h b2 = some z ∧ z.length = 7) ∧ h b3 = some (eSt (foldS v (l.take k)))
def FoM (v : PView) (l : List PRec) (b2 b3 : Nat) (t : Nat → AV) (h : Nat → Option (List AV)) : Prop := t 4 = .ptr b2 0 ∧ t 5 = .ptr b3 0 ∧ (∃ z, h b2 = some z ∧ z.length = 7) ∧ h b3 = some (eSt (foldS v l))
theorem fold_spec (v : PView) (l : List PRec) (hv : rightV v = true) (hl : ∀ r ∈ l, rightR r = true) (hn : l.length ≤ 100000) : ASpec Tryz.prog 20 [.agg (eV v), .sl .no (eRs l)] (· = .agg (eSt (foldS v l))) := by
  refine ASpec.of_awp Tryz.func20 (by kernel_rfl) rfl (by rw [Tryz.results20]) Tryz.ntmps20 ?_
  simp -implicitDefEqProofs [eV]
  refine allocK.intro (fun b1 hb1 => ?_)
  simp -implicitDefEqProofs
  refine allocK.intro (fun b2 hb2 => ?_)
  have n12 : ¬ b1 = b2 := by rintro rfl; simp at hb2
  have n21 : ¬ b2 = b1 := fun h => n12 h.symm
  simp -implicitDefEqProofs [n12, n21]
  refine CallK.with (new_spec v) (by simp [eV]) ?_
  simp -implicitDefEqProofs [eSt]
  refine allocK.intro (fun b3 hb3 => ?_)
  have n13 : ¬ b1 = b3 := by rintro rfl; simp [n12] at hb3
  have n31 : ¬ b3 = b1 := fun h => n13 h.symm
  have n23 : ¬ b2 = b3 := by rintro rfl; simp at hb3
  have n32 : ¬ b3 = b2 := fun h => n23 h.symm
  simp -implicitDefEqProofs [n12, n21, n13, n31, n23, n32]
  intro _
  refine loopK.post (FoI v l b2 b3) (fun t => l.length - natOf (t 12)) (FoM v l b2 b3) ?_ ?_ ?_
  · exact ⟨0, by simp, by simp, by simp, by simp, by simp, by omega, ⟨[.sl .nil [], .sl .nil [], .sl .nil [], eI 0, eI 0, eI 0, eI 0], by simp [n23, n21], rfl⟩, by simp [foldS, newS, eSt]⟩
  · rintro t hh ⟨k, g4, g5, g10, g11, g12, hk, ⟨z, kz, hz⟩, k3⟩
    by_cases hlt : k < l.length
    · have hlt' : (k : Int) < (l.length : Int) := by omega
      obtain ⟨r, hx⟩ : ∃ r, l[k]? = some r := ⟨l[k], by simp [hlt]⟩
      have hw : IntKind.i64.wrap ((k : Int) + 1) = ((k + 1 : Nat) : Int) := by rw [w64 (by omega) (by omega)]; omega
      have hok := okN_fold hv hl k hk
      have hr := hl r (List.mem_of_getElem? hx)
      have hst := foldS_step (v := v) hx
      generalize foldS v (l.take k) = s at *
      have hap := apply_spec s r (hok.ok (by omega)) (right_cell hr).1 (hok.news hr)
      generalize applyS s r = s2 at *
      simp -implicitDefEqProofs [g10, g11, g12, hlt', hx, eRc]
      refine allocK.intro (fun b4 hb4 => ?_)
      have n24 : ¬ b2 = b4 := by rintro rfl; rw [kz] at hb4; simp at hb4
      have n42 : ¬ b4 = b2 := fun h => n24 h.symm
      have n34 : ¬ b3 = b4 := by rintro rfl; rw [k3] at hb4; simp at hb4
      have n43 : ¬ b4 = b3 := fun h => n34 h.symm
      rw [eSt] at k3
      simp -implicitDefEqProofs [g5, k3, n23, n32, n24, n42, n34, n43]
      refine CallK.with hap (by simp [eSt, eRc]) ?_
      simp -implicitDefEqProofs [g5, k3, n23, n32, n24, n42, n34, n43, g12, hw, eSt]
      exact ⟨⟨k + 1, by simp [g4], by simp [g5], by simp [g10], by simp [g11], by simp, by omega, ⟨z, by simp [n23, n24, kz], hz⟩, by rw [hst]; simp [eSt]⟩, by omega⟩
    · have hlt' : ¬ (k : Int) < (l.length : Int) := by omega
      rw [List.take_of_length_le (by omega)] at k3
      simp -implicitDefEqProofs [g11, g12, hlt']
      exact ⟨by simp [g4], by simp [g5], ⟨z, kz, hz⟩, k3⟩
  rintro t hh ⟨g4, g5, ⟨z, kz, hz⟩, k3⟩
  generalize foldS v l = s at *
  rw [eSt] at k3
  simp -implicitDefEqProofs [g4, g5, kz, k3, hz, n23, n32, eSt]
end Go.Proofs.YtjbbfiagijjdoaaGreat

/- The law ReplicaQuiet, walked. No condition. -/
set_option linter.unusedSimpArgs false
set_option linter.unusedVariables false
set_option maxRecDepth 10000
namespace Go.Proofs.YtjbbfiagijjdoaaGreat
open Go Go.Rw Go.Proofs
-- a goal is never to be run by the elaborator
attribute [local irreducible] awp aops aop aopsE aeff

theorem right13_of {me : Int} {l : List PRec} {q : PMsg} (h : (l.all rightR && (decide (0 ≤ me) && decide (me < 6) && rightM q)) = true) : (∀ r ∈ l, rightR r = true) ∧ (0 ≤ me ∧ me < 6) ∧ rightM q = true := by
  simp only [Bool.and_eq_true, decide_eq_true_eq, List.all_eq_true] at h
  exact ⟨h.1, h.2.1, h.2.2⟩
theorem tell_head (me : Int) (s : PState) (q : PMsg) : (tellS me s q).to = q.frm ∧ (tellS me s q).frm = me ∧ (tellS me s q).view = q.view ∧ 5 ≤ (tellS me s q).kind ∧ ((tellS me s q).cells = [] ∨ q.kind = 0) ∧ ((tellS me s q).book = [] ∨ q.kind = 2) := by
  unfold tellS ansM
  by_cases k0 : q.kind = 0
  · simp [k0]
  · by_cases k2 : q.kind = 2
    · simp [k2]
    · simp [k0, k2]
theorem wrote_asks {s : PState} {q : PMsg} (h : q.kind = 0 ∨ q.kind = 2) : wroteS s q = [] := by
  unfold wroteS
  rw [if_neg (by omega), if_neg (by omega), if_neg (by omega)]
theorem quiet13_law (me : Int) (l : List PRec) (q : PMsg) (hf : ∀ r ∈ l, fitR r) (hl : l.length ≤ 1048576) : ASpec Tryz.prog 4 [eI me, .sl .no (eRs l), .agg (eM q)] (· = .v (.bool true)) := by
  refine ASpec.of_awp Tryz.func4 (by kernel_rfl) rfl (by rw [Tryz.results4]) Tryz.ntmps4 ?_
  simp -implicitDefEqProofs [eM]
  refine allocK.intro (fun b1 hb1 => ?_)
  simp -implicitDefEqProofs
  refine CallK.eq alive13_spec ?_
  simp -implicitDefEqProofs
  intro _
  by_cases h60 : 60 < l.length
  · have h60' : (60 : Int) < (l.length : Int) := by omega
    simp -implicitDefEqProofs [h60, h60']
  have h60' : ¬ (60 : Int) < (l.length : Int) := by omega
  simp -implicitDefEqProofs [h60, h60']
  refine CallK.with (right13_spec me l q hf (by omega)) (by simp [eM]) ?_
  cases hr : (l.all rightR && (decide (0 ≤ me) && decide (me < 6) && rightM q))
  · simp -implicitDefEqProofs
  obtain ⟨hr1, hr2, hr3⟩ := right13_of hr
  simp -implicitDefEqProofs
  have hfold := fold_spec v7 l rightV_v7 hr1 (by omega)
  have hok := okT_fold rightV_v7 hr1 l.length (Nat.le_refl _)
  rw [List.take_length] at hok
  generalize foldS v7 l = s at *
  have R := rightM_of hr3
  have hsv := serve_spec me s q (hok.ok (by omega)) R.view (by have := R.clen; omega) (by have := R.blen; omega)
  refine CallK.with hfold (by simp [eV, v7]) ?_
  simp -implicitDefEqProofs [eSt]
  refine allocK.intro (fun b2 hb2 => ?_)
  have n12 : ¬ b1 = b2 := by rintro rfl; simp at hb2
  have n21 : ¬ b2 = b1 := fun h => n12 h.symm
  simp -implicitDefEqProofs [n12, n21]
  refine CallK.with hsv (by simp [eSt, eM]) ?_
  rw [serveA]
  simp -implicitDefEqProofs [n12, n21, eM]
  refine allocK.intro (fun b3 hb3 => ?_)
  have n13 : ¬ b1 = b3 := by rintro rfl; simp [n12] at hb3
  have n31 : ¬ b3 = b1 := fun h => n13 h.symm
  have n23 : ¬ b2 = b3 := by rintro rfl; simp at hb3
  have n32 : ¬ b3 = b2 := fun h => n23 h.symm
  have hk := R.kind.1
  by_cases ht : q.to = me
  · by_cases hk4 : q.kind ≤ 4
    · have hs : servable me q = true := by simp [servable, ht, hk4, hk]
      have e1 : recsS me s q = wroteS s q := by rw [recsS, if_pos hs]
      have e2 : answerS me s q = tellS me s q := by rw [answerS, if_pos hs]
      obtain ⟨t1, t2, t3, t4, t5, t6⟩ := tell_head me s q
      have hw := wrote_asks (s := s) (q := q)
      rw [e1, e2, hs]
      generalize tellS me s q = a at *
      generalize wroteS s q = w at *
      simp -implicitDefEqProofs [n12, n21, n13, n31, n23, n32, ht, hk4]
      by_cases k0 : q.kind = 0
      · have hb : a.book = [] := by
          rcases t6 with h | h
          · exact h
          · omega
        rw [hw (.inl k0)]
        simp -implicitDefEqProofs [n12, n21, n13, n31, n23, n32, k0, hb, t1, t2, t3, t4]
        intro _
        by_cases hc : a.cells = []
        · simp -implicitDefEqProofs [n12, n21, n13, n31, n23, n32, k0, hb, hc, t1, t2, t3, t4]
        · simp -implicitDefEqProofs [n12, n21, n13, n31, n23, n32, k0, hb, hc, t1, t2, t3, t4]
      · by_cases k2 : q.kind = 2
        · have hb : a.cells = [] := by
            rcases t5 with h | h
            · exact h
            · omega
          rw [hw (.inr k2)]
          simp -implicitDefEqProofs [n12, n21, n13, n31, n23, n32, k0, k2, hb, t1, t2, t3, t4]
          intro _
          by_cases hc : a.book = []
          · simp -implicitDefEqProofs [n12, n21, n13, n31, n23, n32, k0, k2, hb, hc, t1, t2, t3, t4]
          · simp -implicitDefEqProofs [n12, n21, n13, n31, n23, n32, k0, k2, hb, hc, t1, t2, t3, t4]
        · have hb1 : a.cells = [] := by
            rcases t5 with h | h
            · exact h
            · omega
          have hb2 : a.book = [] := by
            rcases t6 with h | h
            · exact h
            · omega
          simp -implicitDefEqProofs [n12, n21, n13, n31, n23, n32, k0, k2, hb1, hb2, t1, t2, t3, t4]
    · have hs : servable me q = false := servable_no (by rintro ⟨_, _, h⟩; exact hk4 h)
      have e1 : recsS me s q = [] := by rw [recsS, hs]; simp
      rw [e1, hs]
      simp -implicitDefEqProofs [n12, n21, n13, n31, n23, n32, ht, hk4]
  · have hs : servable me q = false := servable_no (by rintro ⟨h, _⟩; exact ht h)
    have e1 : recsS me s q = [] := by rw [recsS, hs]; simp
    rw [e1, hs]
    simp -implicitDefEqProofs [n12, n21, n13, n31, n23, n32, ht]
end Go.Proofs.YtjbbfiagijjdoaaGreat

/- Arguments of the laws on messages, read as plain data. No condition. -/
set_option linter.unusedSimpArgs false
set_option linter.unusedVariables false
set_option maxRecDepth 10000
namespace Go.Proofs.YtjbbfiagijjdoaaGreat
open Go Go.Rw Go.Proofs

theorem own : ownKnob Tryz.prog.godebug = none := by kernel_rfl
theorem laidOut : laidOutB Tryz.prog = true := by kernel_rfl

theorem bulkAll_sum {H : Type} : ∀ l : List (DataW H), Rows.uptoBulkAll l = (l.map Rows.uptoBulk).sum
  | [] => by simp [Rows.uptoBulkAll]
  | d :: l => by simp [Rows.uptoBulkAll, bulkAll_sum l]
theorem bulkOK {H : Type} : BulkOK (Rows.uptoBulk (H := H)) where
  one := fun d => by
    cases d with
    | lit l => cases l <;> simp [Rows.uptoBulk]
    | nil => simp [Rows.uptoBulk]
    | ptr d => simp [Rows.uptoBulk]
    | slice elems spare => simp [Rows.uptoBulk]
    | agg parts => simp [Rows.uptoBulk]
    | iface t d => simp [Rows.uptoBulk]
    | map entries => simp [Rows.uptoBulk]
    | held h => simp [Rows.uptoBulk]
  slice := fun e s => by simp only [Rows.uptoBulk, bulkAll_sum]; omega
  agg := fun p => by simp only [Rows.uptoBulk, bulkAll_sum]; omega
theorem bulk_of {H : Type} {l : List (DataW H)} (hk : Rows.uptoSmall H l = true) : Rows.uptoBulkAll l ≤ 1048576 := of_decide_eq_true hk

section
variable {H : Type} {enc0 : TypeId × Value → H} {W : World}
def inI (n : Int) : Prop := -9223372036854775808 ≤ n ∧ n ≤ 9223372036854775807
theorem inI_of {n : Int} (h : IntKind.i64.min ≤ n ∧ n ≤ IntKind.i64.max) : inI n := h
theorem reads_int : Reads Tryz.prog Rows.uptoBulk enc0 W 3 (fun n : Int => [eI n]) (fun n _ => inI n) := Reads.int Tryz.underlying3
theorem reads_f64 : Reads Tryz.prog Rows.uptoBulk enc0 W 44 (fun n : Nat => [AV.v (.float .f64 n)]) (fun n _ => n < 18446744073709551616) := Reads.float Tryz.underlying44
theorem reads_u32 : Reads Tryz.prog Rows.uptoBulk enc0 W 202 (fun n : BitVec 32 => [AV.v (.int .u32 (n32 n))]) (fun _ _ => True) := by
  have h : Reads Tryz.prog Rows.uptoBulk enc0 W 202 (fun n : Int => [AV.v (.int .u32 n)]) (fun n _ => IntKind.u32.min ≤ n ∧ n ≤ IntKind.u32.max) := Reads.int Tryz.underlying202
  intro fuel cs x hx hb
  obtain ⟨n, h1, h2, h3⟩ := h fuel cs x hx hb
  have e1 : IntKind.u32.min = 0 := rfl
  have e2 : IntKind.u32.max = 4294967295 := rfl
  refine ⟨BitVec.ofNat 32 n.toNat, ?_, trivial⟩
  have e3 : n32 (BitVec.ofNat 32 n.toNat) = n := by
    simp only [n32, BitVec.toNat_ofNat]
    omega
  show Reps _ [AV.v (.int .u32 (n32 _))] cs
  rw [e3]; exact h1
theorem reads_byte : Reads Tryz.prog Rows.uptoBulk enc0 W 5 encB (fun _ _ => True) := by
  have h : Reads Tryz.prog Rows.uptoBulk enc0 W 5 (fun n : Int => [AV.v (.int .u8 n)]) (fun n _ => IntKind.u8.min ≤ n ∧ n ≤ IntKind.u8.max) := Reads.int Tryz.underlying5
  intro fuel cs x hx hb
  obtain ⟨n, h1, h2, h3⟩ := h fuel cs x hx hb
  have e1 : IntKind.u8.min = 0 := rfl
  have e2 : IntKind.u8.max = 255 := rfl
  refine ⟨UInt8.ofNat n.toNat, ?_, trivial⟩
  have e4 : (UInt8.ofNat n.toNat).toNat = n.toNat % 256 := by simp
  have e3 : ((UInt8.ofNat n.toNat).toNat : Int) = n := by rw [e4]; omega
  rw [encB, e3]; exact h1
theorem reads_view : Reads Tryz.prog Rows.uptoBulk enc0 W 24 eV (fun v _ => inI v.add ∧ inI v.del) :=
  (Reads.struct bulkOK Tryz.underlying24 (by kernel_rfl) (.cons (sz := 1) rfl (by kernel_rfl) reads_int (.cons (sz := 1) rfl (by kernel_rfl) reads_int .nil)) (fun _ _ _ ⟨m, k, h1, h2⟩ _ => ⟨m, k, by omega, h2⟩)).weaken (β := PView)
    (fun p => ⟨p.1, p.2.1⟩) (fun p => rfl) (fun p n ⟨m, k, _, h1, m', k', _, h2, _⟩ => ⟨h1, h2⟩)
theorem reads_tag : Reads Tryz.prog Rows.uptoBulk enc0 W 43 eT (fun v _ => inI v.num ∧ inI v.node) :=
  (Reads.struct bulkOK Tryz.underlying43 (by kernel_rfl) (.cons (sz := 1) rfl (by kernel_rfl) reads_int (.cons (sz := 1) rfl (by kernel_rfl) reads_int .nil)) (fun _ _ _ ⟨m, k, h1, h2⟩ _ => ⟨m, k, by omega, h2⟩)).weaken (β := PTag)
    (fun p => ⟨p.1, p.2.1⟩) (fun p => rfl) (fun p n ⟨m, k, _, h1, m', k', _, h2, _⟩ => ⟨h1, h2⟩)
def goodC (c : PCell) (_ : Nat) : Prop := inI c.node ∧ inI c.change.add ∧ inI c.change.del
theorem reads_cell : Reads Tryz.prog Rows.uptoBulk enc0 W 48 eC goodC :=
  (Reads.struct bulkOK Tryz.underlying48 (by kernel_rfl) (.cons (sz := 1) rfl (by kernel_rfl) reads_int (.cons (sz := 2) rfl (by kernel_rfl) reads_view .nil)) (fun _ _ _ ⟨m, k, h1, h2⟩ _ => ⟨m, k, by omega, h2⟩)).weaken (β := PCell)
    (fun p => ⟨p.1, p.2.1⟩) (fun p => rfl) (fun p n ⟨m, k, _, h1, m', k', _, h2, _⟩ => ⟨h1, h2⟩)
def goodE (x : PEntry) (_ : Nat) : Prop := inI x.key ∧ (inI x.tag.num ∧ inI x.tag.node) ∧ x.value < 18446744073709551616
theorem reads_entry : Reads Tryz.prog Rows.uptoBulk enc0 W 46 eE goodE :=
  (Reads.struct bulkOK Tryz.underlying46 (by kernel_rfl) (.cons (sz := 1) rfl (by kernel_rfl) reads_int (.cons (sz := 2) rfl (by kernel_rfl) reads_tag (.cons (sz := 1) rfl (by kernel_rfl) reads_f64 .nil))) (fun _ _ _ ⟨m, k, h1, h2⟩ _ => ⟨m, k, by omega, h2⟩)).weaken (β := PEntry)
    (fun p => ⟨p.1, p.2.1, p.2.2.1⟩) (fun p => rfl) (fun p n ⟨m, k, _, h1, m', k', _, h2, m2, k2, _, h3, _⟩ => ⟨h1, h2, h3⟩)
theorem reads_cells : Reads Tryz.prog Rows.uptoBulk enc0 W 25 (fun l : List PCell => [AV.sl .no (eCs l)]) (fun l n => Goods goodC l n) :=
  Reads.slice (sz := 3) bulkOK Tryz.underlying25 (by kernel_rfl) (by omega) reads_cell (by intro a x hx; simp [eC] at hx; rcases hx with rfl | rfl | rfl <;> rfl)
theorem reads_entries : Reads Tryz.prog Rows.uptoBulk enc0 W 26 (fun l : List PEntry => [AV.sl .no (eEs l)]) (fun l n => Goods goodE l n) :=
  Reads.slice (sz := 4) bulkOK Tryz.underlying26 (by kernel_rfl) (by omega) reads_entry (by intro a x hx; simp [eE] at hx; rcases hx with rfl | rfl | rfl | rfl <;> rfl)
structure GoodM (m : PMsg) (n : Nat) : Prop where
  kind : inI m.kind
  frm : inI m.frm
  to : inI m.to
  inc : inI m.inc
  seq : inI m.seq
  view : inI m.view.add ∧ inI m.view.del
  lists : ∃ a b, a + b ≤ n ∧ Goods goodC m.cells a ∧ Goods goodE m.book b
set_option maxHeartbeats 2000000 in
theorem reads_msg : Reads Tryz.prog Rows.uptoBulk enc0 W 28 eM GoodM :=
  (Reads.struct bulkOK Tryz.underlying28 (by kernel_rfl) (.cons (sz := 1) rfl (by kernel_rfl) reads_int (.cons (sz := 1) rfl (by kernel_rfl) reads_int (.cons (sz := 1) rfl (by kernel_rfl) reads_int (.cons (sz := 1) rfl (by kernel_rfl) reads_int (.cons (sz := 1) rfl (by kernel_rfl) reads_int
    (.cons (sz := 2) rfl (by kernel_rfl) reads_view (.cons (sz := 1) rfl (by kernel_rfl) reads_cells (.cons (sz := 1) rfl (by kernel_rfl) reads_entries .nil)))))))) (fun _ _ _ ⟨m, k, h1, h2⟩ _ => ⟨m, k, by omega, h2⟩)).weaken (β := PMsg)
    (fun p => ⟨p.1, p.2.1, p.2.2.1, p.2.2.2.1, p.2.2.2.2.1, p.2.2.2.2.2.1, p.2.2.2.2.2.2.1, p.2.2.2.2.2.2.2.1⟩) (fun p => rfl)
    (fun p n ⟨_, _, l1, h1, _, _, l2, h2, _, _, l3, h3, _, _, l4, h4, _, _, l5, h5, _, _, l6, h6, _, _, l7, h7, _, _, l8, h8, _⟩ => ⟨h1, h2, h3, h4, h5, h6, _, _, by omega, h7, h8⟩)
theorem GoodM.lens {m : PMsg} {n : Nat} (h : GoodM m n) : m.cells.length + m.book.length ≤ n := by
  obtain ⟨a, b, h1, h2, h3⟩ := h.lists
  have := h2.length; have := h3.length
  omega
theorem GoodM.fit {m : PMsg} {n : Nat} (h : GoodM m n) : ∀ x ∈ m.book, x.value < 18446744073709551616 := by
  obtain ⟨a, b, h1, h2, h3⟩ := h.lists
  intro x hx
  obtain ⟨_, _, h4⟩ := h3.mem x hx
  exact h4.2.2

def zeroMsg : Value := .agg #[.int .i64 0, .int .i64 0, .int .i64 0, .int .i64 0, .int .i64 0, .int .i64 0, .int .i64 0, .slice none 0 0, .slice none 0 0]
def z0 : DataW H := .lit (.int .i64 0)
def zeroMsgD : DataW H := .agg [z0, z0, z0, z0, z0, .agg [z0, z0], .nil, .nil]
theorem reps_two {I : Imm} {x1 x2 : AV} {y1 y2 : Value} (h1 : Rep I x1 y1) (h2 : Rep I x2 y2) : Reps I [x1, x2] [y1, y2] := cell_reps (reps_one h1) [x2] [y2] (reps_one h2)
theorem reps_three {I : Imm} {x1 x2 x3 : AV} {y1 y2 y3 : Value} (h1 : Rep I x1 y1) (h2 : Rep I x2 y2) (h3 : Rep I x3 y3) : Reps I [x1, x2, x3] [y1, y2, y3] := cell_reps (reps_one h1) [x2, x3] [y2, y3] (reps_two h2 h3)
/-- an argument that is a struct -/
theorem arg_agg {t : TypeId} {fs : Array Field} {α : Type} {enc : α → List AV} {good : α → Nat → Prop} (hr : Reads Tryz.prog Rows.uptoBulk enc0 W t enc good) (ht : Tryz.prog.underlying t = some (.struct fs)) {v : Value} {d : DataW H} {p : List MemPlace} {base : Nat}
    (hok : Value.okWide Tryz.prog W .any base t v) (h : DataW.Trod enc0 Tryz.prog W 0 (fun _ => true) true t v d p) (hb : Rows.uptoBulk d ≤ 1048576) : ∃ a, Rep (allI W) (.agg (enc a)) v ∧ good a (Rows.uptoBulk d) := by
  simp only [Value.okWide, ht] at hok
  obtain ⟨cs, rfl, _, _⟩ := hok
  obtain ⟨fuel, hf⟩ := h
  obtain ⟨a, h1, h2⟩ := hr fuel _ _ hf (show Rows.uptoBulk d ≤ 281474976710656 by omega)
  refine ⟨a, ?_, h2⟩
  have : cs = (Value.agg cs).cells.toList.toArray := by simp [Value.cells]
  conv => rhs; rw [this]
  exact .agg _ h1.1 h1.2
/-- an argument of one cell -/
theorem arg_one {t : TypeId} {α : Type} {enc : α → AV} {good : α → Nat → Prop} (hr : Reads Tryz.prog Rows.uptoBulk enc0 W t (fun a => [enc a]) good) {v : Value} {d : DataW H} {p : List MemPlace}
    (hv : v.cells.toList = [v]) (h : DataW.Trod enc0 Tryz.prog W 0 (fun _ => true) true t v d p) (hb : Rows.uptoBulk d ≤ 1048576) : ∃ a, Rep (allI W) (enc a) v ∧ good a (Rows.uptoBulk d) := by
  obtain ⟨fuel, hf⟩ := h
  obtain ⟨a, h1, h2⟩ := hr fuel _ _ hf (show Rows.uptoBulk d ≤ 281474976710656 by omega)
  rw [hv] at h1
  exact ⟨a, h1.2 0 _ _ rfl rfl, h2⟩
/-- a value that is no struct is one cell -/
theorem one_cell {t : TypeId} {u : TypeDesc} (ht : Tryz.prog.underlying t = some u) (h1 : ∀ fs, u ≠ .struct fs) (h2 : ∀ n e, u ≠ .array n e) {v : Value} {base : Nat} (hok : Value.okWide Tryz.prog W .any base t v) : v.cells.toList = [v] := by
  unfold Value.okWide at hok
  rw [ht] at hok
  have hcell : Cell.okWide Tryz.prog W .any base t v := by
    cases u <;> first | exact hok | exact absurd rfl (h1 _) | exact absurd rfl (h2 _ _)
  cases v with
  | agg cs =>
    unfold Cell.okWide at hcell
    rw [ht] at hcell
    cases u <;> simp [Cell.ok, ht] at hcell
  | _ => rfl
end
end Go.Proofs.YtjbbfiagijjdoaaGreat

/- Arguments of the laws on records, read as plain data. No condition. -/
set_option linter.unusedSimpArgs false
set_option linter.unusedVariables false
set_option maxRecDepth 10000
namespace Go.Proofs.YtjbbfiagijjdoaaGreat
open Go Go.Rw Go.Proofs

section
variable {H : Type} {enc0 : TypeId × Value → H} {W : World}
def goodR (r : PRec) (_ : Nat) : Prop := inI r.kind ∧ (inI r.view.add ∧ inI r.view.del) ∧ goodC r.cell 0 ∧ goodE r.entry 0 ∧ inI r.n
theorem goodR.fit {r : PRec} {n : Nat} (h : goodR r n) : fitR r := h.2.2.2.1.2.2
set_option maxHeartbeats 2000000 in
theorem reads_rec : Reads Tryz.prog Rows.uptoBulk enc0 W 66 eRc goodR :=
  (Reads.struct bulkOK Tryz.underlying66 (by kernel_rfl) (.cons (sz := 1) rfl (by kernel_rfl) reads_int (.cons (sz := 2) rfl (by kernel_rfl) reads_view (.cons (sz := 3) rfl (by kernel_rfl) reads_cell (.cons (sz := 4) rfl (by kernel_rfl) reads_entry (.cons (sz := 1) rfl (by kernel_rfl) reads_int .nil))))) (fun _ _ _ ⟨m, k, h1, h2⟩ _ => ⟨m, k, by omega, h2⟩)).weaken (β := PRec)
    (fun p => ⟨p.1, p.2.1, p.2.2.1, p.2.2.2.1, p.2.2.2.2.1⟩) (fun p => rfl)
    (fun p n ⟨_, _, _, h1, _, _, _, h2, _, _, _, h3, _, _, _, h4, _, _, _, h5, _⟩ => ⟨h1, h2, h3, h4, h5⟩)
theorem reads_recs : Reads Tryz.prog Rows.uptoBulk enc0 W 22 (fun l : List PRec => [AV.sl .no (eRs l)]) (fun l n => Goods goodR l n) :=
  Reads.slice (sz := 11) bulkOK Tryz.underlying22 (by kernel_rfl) (by omega) reads_rec (by intro a x hx; simp [eRc] at hx; rcases hx with rfl | rfl | rfl | rfl | rfl | rfl | rfl | rfl | rfl | rfl | rfl <;> rfl)
theorem goods_fits {l : List PRec} {n : Nat} (h : Goods goodR l n) : ∀ r ∈ l, fitR r := fun r hr => by
  obtain ⟨_, _, h2⟩ := h.mem r hr
  exact h2.fit
def zeroRec : Value := .agg #[.int .i64 0, .int .i64 0, .int .i64 0, .int .i64 0, .int .i64 0, .int .i64 0, .int .i64 0, .int .i64 0, .int .i64 0, .float .f64 0, .int .i64 0]
def zeroRecD : DataW H := .agg [z0, .agg [z0, z0], .agg [z0, .agg [z0, z0]], .agg [z0, .agg [z0, z0], .lit (.float .f64 0)], z0]
end
end Go.Proofs.YtjbbfiagijjdoaaGreat
