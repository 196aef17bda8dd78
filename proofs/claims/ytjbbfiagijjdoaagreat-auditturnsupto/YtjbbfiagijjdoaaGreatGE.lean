/- Parts of the proof: what is used by the law. No condition. -/
import Derived.Sort.AssemblyPlain
import Derived.Test.YtjbbfiagijjdoaaGreatGD
set_option linter.unusedSimpArgs false
set_option linter.unusedVariables false
/- Contract: the document's state behind records. No condition. -/
set_option linter.unusedSimpArgs false
set_option linter.unusedVariables false
set_option maxRecDepth 10000
namespace Go.Proofs.YtjbbfiagijjdoaaGreat
open Go Go.Rw Go.Proofs
-- a goal is never to be run by the elaborator
attribute [local irreducible] awp aops aop aopsE aeff

theorem CallQ.take2 {P : Program} {g : FuncId} {args args' : List AV} {K R : AV → Prop} {x : AV} (h : ASpec P g args' R) (ha : args = args') (hr : ∀ r, R r → dead1 r = x) (hk : K x) : @CallQ P g args ⟨K⟩ := by
  subst ha
  exact .of h hr hk
def eSt3 (t1 t2 t3 : Tag) (s : PState) : List AV := [.sl t1 (rowsVB s.books), .sl t2 (rowsVC s.cells), .sl t3 (rowsVI s.intents), eI s.held.add, eI s.held.del, eI s.inc, eI s.last]
def headL (v : PView) (l : List PRec) : PState := ⟨[], [], [], heldL v l, incL l, lastL l⟩
def OfI1 (v : PView) (l : List PRec) (b2 b3 : Nat) (t : Nat → AV) (h : Nat → Option (List AV)) : Prop := ∃ k : Nat, t 1 = .sl .no (eRs l) ∧ t 4 = .ptr b2 0 ∧ t 5 = .ptr b3 0 ∧ t 16 = .sl .no (eRs l) ∧ t 17 = eI l.length ∧ t 18 = eI k ∧ k ≤ l.length ∧ (∃ z, h b2 = some z ∧ z.length = 7) ∧ h b3 = some (eSt3 .nil .nil .nil (headL v (l.take k)))
def OfM1 (v : PView) (l : List PRec) (b2 b3 : Nat) (t : Nat → AV) (h : Nat → Option (List AV)) : Prop := t 1 = .sl .no (eRs l) ∧ t 4 = .ptr b2 0 ∧ t 5 = .ptr b3 0 ∧ (∃ z, h b2 = some z ∧ z.length = 7) ∧ h b3 = some (eSt3 .nil .nil .nil (headL v l))
def partL (v : PView) (l : List PRec) (vs : List PView) : PState := ⟨vs.filterMap (bookV l), vs.filterMap (cellsV l), vs.filterMap (intentV l), heldL v l, incL l, lastL l⟩
def OfI2 (v : PView) (l : List PRec) (vs : List PView) (b2 b3 : Nat) (t : Nat → AV) (h : Nat → Option (List AV)) : Prop := ∃ (k : Nat) (t1 t2 t3 tv : Tag), t 1 = .sl .no (eRs l) ∧ t 4 = .ptr b2 0 ∧ t 5 = .ptr b3 0 ∧ t 63 = .sl tv (eVs vs) ∧ t 64 = eI vs.length ∧ t 65 = eI k ∧ k ≤ vs.length ∧ (∃ z, h b2 = some z ∧ z.length = 7) ∧ h b3 = some (eSt3 t1 t2 t3 (partL v l (vs.take k))) ∧ appOK t1 89 3 ∧ appOK t2 91 3 ∧ appOK t3 93 4
def OfM2 (v : PView) (l : List PRec) (vs : List PView) (b2 b3 : Nat) (t : Nat → AV) (h : Nat → Option (List AV)) : Prop := ∃ (t1 t2 t3 : Tag), t 4 = .ptr b2 0 ∧ t 5 = .ptr b3 0 ∧ (∃ z, h b2 = some z ∧ z.length = 7) ∧ h b3 = some (eSt3 t1 t2 t3 (partL v l vs))
theorem of12_spec (v : PView) (l : List PRec) (hv : rightV v = true) (hl : ∀ r ∈ l, rightR r = true) (hn : l.length ≤ 1000000000) : ASpec Tryz.prog 24 [.agg (eV v), .sl .no (eRs l)] (· = .agg (eSt (stateL v l))) := by
  refine ASpec.of_awp Tryz.func24 (by kernel_rfl) rfl (by rw [Tryz.results24]) Tryz.ntmps24 ?_
  simp -implicitDefEqProofs [eV]
  refine allocK.intro (fun b1 hb1 => ?_)
  simp -implicitDefEqProofs
  refine allocK.intro (fun b2 hb2 => ?_)
  have n12 : ¬ b1 = b2 := by rintro rfl; simp at hb2
  have n21 : ¬ b2 = b1 := fun h => n12 h.symm
  simp -implicitDefEqProofs [n12, n21]
  refine allocK.intro (fun b3 hb3 => ?_)
  have n13 : ¬ b1 = b3 := by rintro rfl; simp [n12] at hb3
  have n31 : ¬ b3 = b1 := fun h => n13 h.symm
  have n23 : ¬ b2 = b3 := by rintro rfl; simp at hb3
  have n32 : ¬ b3 = b2 := fun h => n23 h.symm
  simp -implicitDefEqProofs [n12, n21, n13, n31, n23, n32]
  intro _
  refine loopK.post (OfI1 v l b2 b3) (fun t => l.length - natOf (t 18)) (OfM1 v l b2 b3) ?_ ?_ ?_
  · exact ⟨0, by simp, by simp, by simp, by simp, by simp, by simp, by omega, ⟨_, by simp [n12, n21, n13, n31, n23, n32]; rfl, rfl⟩, by simp [eSt3, headL, heldL, incL, lastL, rowsVB, rowsVC, rowsVI]⟩
  · rintro t hh ⟨k, g1, g4, g5, g16, g17, g18, hk, ⟨z, c2, hz⟩, c3⟩
    by_cases hlt : k < l.length
    · have hlt' : (k : Int) < (l.length : Int) := by omega
      have hw : IntKind.i64.wrap ((k : Int) + 1) = ((k + 1 : Nat) : Int) := by rw [w64 (by omega) (by omega)]; omega
      obtain ⟨r, hx⟩ : ∃ r, l[k]? = some r := ⟨l[k], by simp [hlt]⟩
      have hrr := hl r (List.mem_of_getElem? hx)
      have hhr : rightV (heldL v (l.take k)) = true := by
        have := (tells_fold hv hl k hk).held
        rw [← this]
        exact (okT_fold hv hl k hk).rh
      have s1 := heldL_step (v := v) hx
      have s2 := lastL_step hx
      have s3 := incL_step hx
      have hwi := within4_spec (heldL v (l.take k)) r.view hhr (right_cell hrr).1
      unfold headL at c3
      have e9 : headL v (l.take (k + 1)) = ⟨[], [], [], heldL v (l.take (k + 1)), incL (l.take (k + 1)), lastL (l.take (k + 1))⟩ := rfl
      generalize heldL v (l.take k) = he at *
      generalize lastL (l.take k) = la at *
      generalize incL (l.take k) = ic at *
      simp -implicitDefEqProofs [g16, g17, g18, hlt', hx, eRc]
      refine allocK.intro (fun b4 hb4 => ?_)
      have n24 : ¬ b2 = b4 := by rintro rfl; rw [c2] at hb4; simp at hb4
      have n42 : ¬ b4 = b2 := fun h => n24 h.symm
      have n34 : ¬ b3 = b4 := by rintro rfl; rw [c3] at hb4; simp at hb4
      have n43 : ¬ b4 = b3 := fun h => n34 h.symm
      rw [eSt3] at c3
      by_cases k3 : r.kind = 3
      · rw [if_neg (by omega)] at s2 s3
        simp -implicitDefEqProofs [g5, c3, n34, n43, k3]
        refine CallK.with hwi (by simp [eV]) ?_
        cases hi : withinV he r.view
        · rw [if_neg (by rw [hi]; simp)] at s1
          simp -implicitDefEqProofs [g5, c3, n34, n43, k3, g18, hw]
          exact ⟨⟨k + 1, by simp [g1], by simp [g4], by simp [g5], by simp [g16], by simp [g17], by simp, by omega, ⟨z, by simp [n24, n23, c2], hz⟩, by rw [e9, s1, s2, s3]; simp [n34, n43, c3, eSt3, rowsVB, rowsVC, rowsVI]⟩, by omega⟩
        · rw [if_pos ⟨k3, hi⟩] at s1
          simp -implicitDefEqProofs [g5, c3, n34, n43, k3, g18, hw]
          exact ⟨⟨k + 1, by simp [g1], by simp [g4], by simp [g5], by simp [g16], by simp [g17], by simp, by omega, ⟨z, by simp [n24, n23, c2], hz⟩, by rw [e9, s1, s2, s3]; simp [eSt3, rowsVB, rowsVC, rowsVI]⟩, by omega⟩
      · rw [if_neg (fun h => k3 h.1)] at s1
        by_cases k4 : r.kind = 4
        · rw [if_neg (by omega)] at s3
          by_cases hi : la < r.n
          · rw [if_pos ⟨k4, hi⟩] at s2
            simp -implicitDefEqProofs [g5, c3, n34, n43, k3, k4, hi, g18, hw]
            exact ⟨⟨k + 1, by simp [g1], by simp [g4], by simp [g5], by simp [g16], by simp [g17], by simp, by omega, ⟨z, by simp [n24, n23, c2], hz⟩, by rw [e9, s1, s2, s3]; simp [eSt3, rowsVB, rowsVC, rowsVI]⟩, by omega⟩
          · rw [if_neg (fun h => hi h.2)] at s2
            simp -implicitDefEqProofs [g5, c3, n34, n43, k3, k4, hi, g18, hw]
            exact ⟨⟨k + 1, by simp [g1], by simp [g4], by simp [g5], by simp [g16], by simp [g17], by simp, by omega, ⟨z, by simp [n24, n23, c2], hz⟩, by rw [e9, s1, s2, s3]; simp [n34, n43, c3, eSt3, rowsVB, rowsVC, rowsVI]⟩, by omega⟩
        · rw [if_neg (fun h => k4 h.1)] at s2
          by_cases k6 : r.kind = 6
          · by_cases hi : ic < r.n
            · rw [if_pos ⟨k6, hi⟩] at s3
              simp -implicitDefEqProofs [g5, c3, n34, n43, k3, k4, k6, hi, g18, hw]
              exact ⟨⟨k + 1, by simp [g1], by simp [g4], by simp [g5], by simp [g16], by simp [g17], by simp, by omega, ⟨z, by simp [n24, n23, c2], hz⟩, by rw [e9, s1, s2, s3]; simp [eSt3, rowsVB, rowsVC, rowsVI]⟩, by omega⟩
            · rw [if_neg (fun h => hi h.2)] at s3
              simp -implicitDefEqProofs [g5, c3, n34, n43, k3, k4, k6, hi, g18, hw]
              exact ⟨⟨k + 1, by simp [g1], by simp [g4], by simp [g5], by simp [g16], by simp [g17], by simp, by omega, ⟨z, by simp [n24, n23, c2], hz⟩, by rw [e9, s1, s2, s3]; simp [n34, n43, c3, eSt3, rowsVB, rowsVC, rowsVI]⟩, by omega⟩
          · rw [if_neg (fun h => k6 h.1)] at s3
            simp -implicitDefEqProofs [g5, c3, n34, n43, k3, k4, k6, g18, hw]
            exact ⟨⟨k + 1, by simp [g1], by simp [g4], by simp [g5], by simp [g16], by simp [g17], by simp, by omega, ⟨z, by simp [n24, n23, c2], hz⟩, by rw [e9, s1, s2, s3]; simp [n34, n43, c3, eSt3, rowsVB, rowsVC, rowsVI]⟩, by omega⟩
    · have hlt' : ¬ (k : Int) < (l.length : Int) := by omega
      rw [List.take_of_length_le (by omega)] at c3
      simp -implicitDefEqProofs [g17, g18, hlt']
      exact ⟨by simp [g1], by simp [g4], by simp [g5], ⟨z, c2, hz⟩, c3⟩
  rintro t hh ⟨g1, g4, g5, ⟨z, c2, hz⟩, c3⟩
  have hvs := views12_spec l (fun r hr => (right_cell (hl r hr)).1) hn
  have hvl := viewsTo_len l 4096
  unfold stateL
  generalize viewsTo l 4096 = vs at *
  simp -implicitDefEqProofs [g1]
  refine CallK.via hvs (by simp) ?_
  rintro _ ⟨tag, rfl⟩
  simp -implicitDefEqProofs
  intro _
  refine loopK.post (OfI2 v l vs b2 b3) (fun t => vs.length - natOf (t 65)) (OfM2 v l vs b2 b3) ?_ ?_ ?_
  · exact ⟨0, .nil, .nil, .nil, tag, by simp [g1], by simp [g4], by simp [g5], by simp, by simp, by simp, by omega, ⟨z, c2, hz⟩, by rw [c3]; rfl, by simp, by simp, by simp⟩
  · rintro t hh ⟨k, t1, t2, t3, tv, g1, g4, g5, g63, g64, g65, hk, ⟨z, c2, hz⟩, c3, a1, a2, a3⟩
    by_cases hlt : k < vs.length
    · have hlt' : (k : Int) < (vs.length : Int) := by omega
      have hw : IntKind.i64.wrap ((k : Int) + 1) = ((k + 1 : Nat) : Int) := by rw [w64 (by omega) (by omega)]; omega
      obtain ⟨u, hx⟩ : ∃ u, vs[k]? = some u := ⟨vs[k], by simp [hlt]⟩
      have hst : ∀ {α : Type} (f : PView → Option α), (vs.take (k + 1)).filterMap f = (vs.take k).filterMap f ++ (f u).toList := fun f => by
        rw [List.take_add_one, hx, List.filterMap_append]
        cases hf : f u <;> simp [hf]
      have hlen : ∀ {α : Type} (f : PView → Option α), ((vs.take k).filterMap f).length ≤ 4096 := fun f => by
        have := List.length_filterMap_le f (vs.take k)
        rw [List.length_take] at this; omega
      have hb := hst (bookV l)
      have hc := hst (cellsV l)
      have hi := hst (intentV l)
      have lb := hlen (bookV l)
      have lc := hlen (cellsV l)
      have li := hlen (intentV l)
      have e9 : partL v l (vs.take (k + 1)) = ⟨(vs.take (k + 1)).filterMap (bookV l), (vs.take (k + 1)).filterMap (cellsV l), (vs.take (k + 1)).filterMap (intentV l), heldL v l, incL l, lastL l⟩ := rfl
      have hbk := book12_spec l u hn
      have hce := cells12_spec l u hn
      have hin := intent12_spec l u hn
      unfold partL at c3
      rw [eSt3] at c3
      rw [show bookV l u = if bookL l u = [] then none else some ⟨u, bookL l u⟩ from rfl] at hb
      rw [show cellsV l u = if cellsL l u = [] then none else some ⟨u, cellsL l u⟩ from rfl] at hc
      rw [show intentV l u = (intentL l u).map (fun c => ⟨u, c⟩) from rfl] at hi
      generalize hB : (vs.take k).filterMap (bookV l) = B at *
      generalize hC : (vs.take k).filterMap (cellsV l) = C at *
      generalize hI : (vs.take k).filterMap (intentV l) = I at *
      simp -implicitDefEqProofs [g63, g64, g65, hlt', hx, eV]
      refine allocK.intro (fun b4 hb4 => ?_)
      have n24 : ¬ b2 = b4 := by rintro rfl; rw [c2] at hb4; simp at hb4
      have n42 : ¬ b4 = b2 := fun h => n24 h.symm
      have n34 : ¬ b3 = b4 := by rintro rfl; rw [c3] at hb4; simp at hb4
      have n43 : ¬ b4 = b3 := fun h => n34 h.symm
      simp -implicitDefEqProofs [n34, n43]
      refine regionK.intro 7 follows_mixed (by kernel_rfl) ?_
      simp -implicitDefEqProofs [g1]
      refine CallQ.take2 (x := .sl .no (eEs (bookL l u))) hbk (by simp [eV]) (by rintro _ ⟨tag, rfl⟩; rfl) ?_
      simp -implicitDefEqProofs [g1]
      refine CallQ.take2 (x := .sl .no (eCs (cellsL l u))) hce (by simp [eV]) (by rintro _ ⟨tag, rfl⟩; rfl) ?_
      simp -implicitDefEqProofs [g1, n34, n43]
      intro _
      by_cases hbk0 : bookL l u = []
      · rw [if_pos hbk0] at hb
        simp only [Option.toList_none, List.append_nil] at hb
        simp -implicitDefEqProofs [n24, n42, n34, n43, n23, n32, hbk0]
        intro _
        by_cases hce0 : cellsL l u = []
        · rw [if_pos hce0] at hc
          simp only [Option.toList_none, List.append_nil] at hc
          simp -implicitDefEqProofs [g1, n24, n42, n34, n43, n23, n32, hce0]
          refine CallK.with hin (by simp [eV]) ?_
          cases hic : intentL l u with
          | none =>
            rw [hic] at hi
            simp only [Option.map_none, Option.toList_none, List.append_nil] at hi
            rw [intentA']
            simp -implicitDefEqProofs [n24, n42, n34, n43, n23, n32, eV]
            refine allocK.intro (fun b5 hb5 => ?_)
            have n25 : ¬ b2 = b5 := by rintro rfl; simp [n24, n42, n34, n43, n23, n32, c2] at hb5
            have n52 : ¬ b5 = b2 := fun h => n25 h.symm
            have n35 : ¬ b3 = b5 := by rintro rfl; simp [n24, n42, n34, n43, n23, n32, c3] at hb5
            have n53 : ¬ b5 = b3 := fun h => n35 h.symm
            have n45 : ¬ b4 = b5 := by rintro rfl; simp [n24, n42, n34, n43, n23, n32] at hb5
            have n54 : ¬ b5 = b4 := fun h => n45 h.symm
            simp -implicitDefEqProofs [n24, n42, n34, n43, n23, n32, n25, n52, n35, n53, n45, n54]
            simp -implicitDefEqProofs [g65, hw]
            exact ⟨⟨k + 1, t1, t2, t3, tv, by simp [g1], by simp [g4], by simp [g5], by simp [g63], by simp [g64], by simp, by omega, ⟨z, by simp [n24, n42, n34, n43, n23, n32, n25, n52, n35, n53, n45, n54, c2], hz⟩, by rw [e9, hb, hc, hi]; simp [n24, n42, n34, n43, n23, n32, n25, n52, n35, n53, n45, n54, c3, eSt3, rowsVB, rowsVC, rowsVI, eVB, eVC, eVI], by simp [a1], by simp [a2], by simp [a3]⟩, by omega⟩
          | some c =>
            rw [hic] at hi
            simp only [Option.map_some, Option.toList_some] at hi
            rw [intentA']
            simp -implicitDefEqProofs [n24, n42, n34, n43, n23, n32, eV]
            refine allocK.intro (fun b5 hb5 => ?_)
            have n25 : ¬ b2 = b5 := by rintro rfl; simp [n24, n42, n34, n43, n23, n32, c2] at hb5
            have n52 : ¬ b5 = b2 := fun h => n25 h.symm
            have n35 : ¬ b3 = b5 := by rintro rfl; simp [n24, n42, n34, n43, n23, n32, c3] at hb5
            have n53 : ¬ b5 = b3 := fun h => n35 h.symm
            have n45 : ¬ b4 = b5 := by rintro rfl; simp [n24, n42, n34, n43, n23, n32] at hb5
            have n54 : ¬ b5 = b4 := fun h => n45 h.symm
            simp -implicitDefEqProofs [n24, n42, n34, n43, n23, n32, n25, n52, n35, n53, n45, n54, g5, c3, a3, rowsVI, eV]
            refine ⟨⟨fun _ _ => rfl, by omega⟩, ?_⟩
            simp -implicitDefEqProofs [g65, hw]
            exact ⟨⟨k + 1, t1, t2, appTag t3 93 4 [eVI ⟨u, c⟩], tv, by simp [g1], by simp [g4], by simp [g5], by simp [g63], by simp [g64], by simp, by omega, ⟨z, by simp [n24, n42, n34, n43, n23, n32, n25, n52, n35, n53, n45, n54, c2], hz⟩, by rw [e9, hb, hc, hi]; simp [n24, n42, n34, n43, n23, n32, n25, n52, n35, n53, n45, n54, c3, eSt3, rowsVB, rowsVC, rowsVI, eVB, eVC, eVI], by simp [a1], by simp [a2], by simp [a3]⟩, by omega⟩
        · rw [if_neg hce0] at hc
          simp only [Option.toList_some] at hc
          have hpos : 0 < (cellsL l u).length := List.length_pos_iff.2 hce0
          simp -implicitDefEqProofs [g1, n24, n42, n34, n43, n23, n32, hpos, g5, c3, a2, rowsVC, eV]
          refine ⟨⟨fun _ _ => rfl, by omega⟩, ?_⟩
          refine CallK.with hin (by simp [eV]) ?_
          cases hic : intentL l u with
          | none =>
            rw [hic] at hi
            simp only [Option.map_none, Option.toList_none, List.append_nil] at hi
            rw [intentA']
            simp -implicitDefEqProofs [n24, n42, n34, n43, n23, n32, eV]
            refine allocK.intro (fun b5 hb5 => ?_)
            have n25 : ¬ b2 = b5 := by rintro rfl; simp [n24, n42, n34, n43, n23, n32, c2] at hb5
            have n52 : ¬ b5 = b2 := fun h => n25 h.symm
            have n35 : ¬ b3 = b5 := by rintro rfl; simp [n24, n42, n34, n43, n23, n32, c3] at hb5
            have n53 : ¬ b5 = b3 := fun h => n35 h.symm
            have n45 : ¬ b4 = b5 := by rintro rfl; simp [n24, n42, n34, n43, n23, n32] at hb5
            have n54 : ¬ b5 = b4 := fun h => n45 h.symm
            simp -implicitDefEqProofs [n24, n42, n34, n43, n23, n32, n25, n52, n35, n53, n45, n54]
            simp -implicitDefEqProofs [g65, hw]
            exact ⟨⟨k + 1, t1, appTag t2 91 3 [eVC ⟨u, cellsL l u⟩], t3, tv, by simp [g1], by simp [g4], by simp [g5], by simp [g63], by simp [g64], by simp, by omega, ⟨z, by simp [n24, n42, n34, n43, n23, n32, n25, n52, n35, n53, n45, n54, c2], hz⟩, by rw [e9, hb, hc, hi]; simp [n24, n42, n34, n43, n23, n32, n25, n52, n35, n53, n45, n54, c3, eSt3, rowsVB, rowsVC, rowsVI, eVB, eVC, eVI], by simp [a1], by simp [a2], by simp [a3]⟩, by omega⟩
          | some c =>
            rw [hic] at hi
            simp only [Option.map_some, Option.toList_some] at hi
            rw [intentA']
            simp -implicitDefEqProofs [n24, n42, n34, n43, n23, n32, eV]
            refine allocK.intro (fun b5 hb5 => ?_)
            have n25 : ¬ b2 = b5 := by rintro rfl; simp [n24, n42, n34, n43, n23, n32, c2] at hb5
            have n52 : ¬ b5 = b2 := fun h => n25 h.symm
            have n35 : ¬ b3 = b5 := by rintro rfl; simp [n24, n42, n34, n43, n23, n32, c3] at hb5
            have n53 : ¬ b5 = b3 := fun h => n35 h.symm
            have n45 : ¬ b4 = b5 := by rintro rfl; simp [n24, n42, n34, n43, n23, n32] at hb5
            have n54 : ¬ b5 = b4 := fun h => n45 h.symm
            simp -implicitDefEqProofs [n24, n42, n34, n43, n23, n32, n25, n52, n35, n53, n45, n54, g5, c3, a3, rowsVI, eV]
            refine ⟨⟨fun _ _ => rfl, by omega⟩, ?_⟩
            simp -implicitDefEqProofs [g65, hw]
            exact ⟨⟨k + 1, t1, appTag t2 91 3 [eVC ⟨u, cellsL l u⟩], appTag t3 93 4 [eVI ⟨u, c⟩], tv, by simp [g1], by simp [g4], by simp [g5], by simp [g63], by simp [g64], by simp, by omega, ⟨z, by simp [n24, n42, n34, n43, n23, n32, n25, n52, n35, n53, n45, n54, c2], hz⟩, by rw [e9, hb, hc, hi]; simp [n24, n42, n34, n43, n23, n32, n25, n52, n35, n53, n45, n54, c3, eSt3, rowsVB, rowsVC, rowsVI, eVB, eVC, eVI], by simp [a1], by simp [a2], by simp [a3]⟩, by omega⟩
      · rw [if_neg hbk0] at hb
        simp only [Option.toList_some] at hb
        have hpos1 : 0 < (bookL l u).length := List.length_pos_iff.2 hbk0
        simp -implicitDefEqProofs [n24, n42, n34, n43, n23, n32, hpos1, g5, c3, a1, rowsVB, eV]
        refine ⟨⟨fun _ _ => rfl, by omega⟩, ?_⟩
        intro _
        by_cases hce0 : cellsL l u = []
        · rw [if_pos hce0] at hc
          simp only [Option.toList_none, List.append_nil] at hc
          simp -implicitDefEqProofs [g1, n24, n42, n34, n43, n23, n32, hce0]
          refine CallK.with hin (by simp [eV]) ?_
          cases hic : intentL l u with
          | none =>
            rw [hic] at hi
            simp only [Option.map_none, Option.toList_none, List.append_nil] at hi
            rw [intentA']
            simp -implicitDefEqProofs [n24, n42, n34, n43, n23, n32, eV]
            refine allocK.intro (fun b5 hb5 => ?_)
            have n25 : ¬ b2 = b5 := by rintro rfl; simp [n24, n42, n34, n43, n23, n32, c2] at hb5
            have n52 : ¬ b5 = b2 := fun h => n25 h.symm
            have n35 : ¬ b3 = b5 := by rintro rfl; simp [n24, n42, n34, n43, n23, n32, c3] at hb5
            have n53 : ¬ b5 = b3 := fun h => n35 h.symm
            have n45 : ¬ b4 = b5 := by rintro rfl; simp [n24, n42, n34, n43, n23, n32] at hb5
            have n54 : ¬ b5 = b4 := fun h => n45 h.symm
            simp -implicitDefEqProofs [n24, n42, n34, n43, n23, n32, n25, n52, n35, n53, n45, n54]
            simp -implicitDefEqProofs [g65, hw]
            exact ⟨⟨k + 1, appTag t1 89 3 [eVB ⟨u, bookL l u⟩], t2, t3, tv, by simp [g1], by simp [g4], by simp [g5], by simp [g63], by simp [g64], by simp, by omega, ⟨z, by simp [n24, n42, n34, n43, n23, n32, n25, n52, n35, n53, n45, n54, c2], hz⟩, by rw [e9, hb, hc, hi]; simp [n24, n42, n34, n43, n23, n32, n25, n52, n35, n53, n45, n54, c3, eSt3, rowsVB, rowsVC, rowsVI, eVB, eVC, eVI], by simp [a1], by simp [a2], by simp [a3]⟩, by omega⟩
          | some c =>
            rw [hic] at hi
            simp only [Option.map_some, Option.toList_some] at hi
            rw [intentA']
            simp -implicitDefEqProofs [n24, n42, n34, n43, n23, n32, eV]
            refine allocK.intro (fun b5 hb5 => ?_)
            have n25 : ¬ b2 = b5 := by rintro rfl; simp [n24, n42, n34, n43, n23, n32, c2] at hb5
            have n52 : ¬ b5 = b2 := fun h => n25 h.symm
            have n35 : ¬ b3 = b5 := by rintro rfl; simp [n24, n42, n34, n43, n23, n32, c3] at hb5
            have n53 : ¬ b5 = b3 := fun h => n35 h.symm
            have n45 : ¬ b4 = b5 := by rintro rfl; simp [n24, n42, n34, n43, n23, n32] at hb5
            have n54 : ¬ b5 = b4 := fun h => n45 h.symm
            simp -implicitDefEqProofs [n24, n42, n34, n43, n23, n32, n25, n52, n35, n53, n45, n54, g5, c3, a3, rowsVI, eV]
            refine ⟨⟨fun _ _ => rfl, by omega⟩, ?_⟩
            simp -implicitDefEqProofs [g65, hw]
            exact ⟨⟨k + 1, appTag t1 89 3 [eVB ⟨u, bookL l u⟩], t2, appTag t3 93 4 [eVI ⟨u, c⟩], tv, by simp [g1], by simp [g4], by simp [g5], by simp [g63], by simp [g64], by simp, by omega, ⟨z, by simp [n24, n42, n34, n43, n23, n32, n25, n52, n35, n53, n45, n54, c2], hz⟩, by rw [e9, hb, hc, hi]; simp [n24, n42, n34, n43, n23, n32, n25, n52, n35, n53, n45, n54, c3, eSt3, rowsVB, rowsVC, rowsVI, eVB, eVC, eVI], by simp [a1], by simp [a2], by simp [a3]⟩, by omega⟩
        · rw [if_neg hce0] at hc
          simp only [Option.toList_some] at hc
          have hpos : 0 < (cellsL l u).length := List.length_pos_iff.2 hce0
          simp -implicitDefEqProofs [g1, n24, n42, n34, n43, n23, n32, hpos, g5, c3, a2, rowsVC, eV]
          refine ⟨⟨fun _ _ => rfl, by omega⟩, ?_⟩
          refine CallK.with hin (by simp [eV]) ?_
          cases hic : intentL l u with
          | none =>
            rw [hic] at hi
            simp only [Option.map_none, Option.toList_none, List.append_nil] at hi
            rw [intentA']
            simp -implicitDefEqProofs [n24, n42, n34, n43, n23, n32, eV]
            refine allocK.intro (fun b5 hb5 => ?_)
            have n25 : ¬ b2 = b5 := by rintro rfl; simp [n24, n42, n34, n43, n23, n32, c2] at hb5
            have n52 : ¬ b5 = b2 := fun h => n25 h.symm
            have n35 : ¬ b3 = b5 := by rintro rfl; simp [n24, n42, n34, n43, n23, n32, c3] at hb5
            have n53 : ¬ b5 = b3 := fun h => n35 h.symm
            have n45 : ¬ b4 = b5 := by rintro rfl; simp [n24, n42, n34, n43, n23, n32] at hb5
            have n54 : ¬ b5 = b4 := fun h => n45 h.symm
            simp -implicitDefEqProofs [n24, n42, n34, n43, n23, n32, n25, n52, n35, n53, n45, n54]
            simp -implicitDefEqProofs [g65, hw]
            exact ⟨⟨k + 1, appTag t1 89 3 [eVB ⟨u, bookL l u⟩], appTag t2 91 3 [eVC ⟨u, cellsL l u⟩], t3, tv, by simp [g1], by simp [g4], by simp [g5], by simp [g63], by simp [g64], by simp, by omega, ⟨z, by simp [n24, n42, n34, n43, n23, n32, n25, n52, n35, n53, n45, n54, c2], hz⟩, by rw [e9, hb, hc, hi]; simp [n24, n42, n34, n43, n23, n32, n25, n52, n35, n53, n45, n54, c3, eSt3, rowsVB, rowsVC, rowsVI, eVB, eVC, eVI], by simp [a1], by simp [a2], by simp [a3]⟩, by omega⟩
          | some c =>
            rw [hic] at hi
            simp only [Option.map_some, Option.toList_some] at hi
            rw [intentA']
            simp -implicitDefEqProofs [n24, n42, n34, n43, n23, n32, eV]
            refine allocK.intro (fun b5 hb5 => ?_)
            have n25 : ¬ b2 = b5 := by rintro rfl; simp [n24, n42, n34, n43, n23, n32, c2] at hb5
            have n52 : ¬ b5 = b2 := fun h => n25 h.symm
            have n35 : ¬ b3 = b5 := by rintro rfl; simp [n24, n42, n34, n43, n23, n32, c3] at hb5
            have n53 : ¬ b5 = b3 := fun h => n35 h.symm
            have n45 : ¬ b4 = b5 := by rintro rfl; simp [n24, n42, n34, n43, n23, n32] at hb5
            have n54 : ¬ b5 = b4 := fun h => n45 h.symm
            simp -implicitDefEqProofs [n24, n42, n34, n43, n23, n32, n25, n52, n35, n53, n45, n54, g5, c3, a3, rowsVI, eV]
            refine ⟨⟨fun _ _ => rfl, by omega⟩, ?_⟩
            simp -implicitDefEqProofs [g65, hw]
            exact ⟨⟨k + 1, appTag t1 89 3 [eVB ⟨u, bookL l u⟩], appTag t2 91 3 [eVC ⟨u, cellsL l u⟩], appTag t3 93 4 [eVI ⟨u, c⟩], tv, by simp [g1], by simp [g4], by simp [g5], by simp [g63], by simp [g64], by simp, by omega, ⟨z, by simp [n24, n42, n34, n43, n23, n32, n25, n52, n35, n53, n45, n54, c2], hz⟩, by rw [e9, hb, hc, hi]; simp [n24, n42, n34, n43, n23, n32, n25, n52, n35, n53, n45, n54, c3, eSt3, rowsVB, rowsVC, rowsVI, eVB, eVC, eVI], by simp [a1], by simp [a2], by simp [a3]⟩, by omega⟩
    · have hlt' : ¬ (k : Int) < (vs.length : Int) := by omega
      rw [List.take_of_length_le (by omega)] at c3
      simp -implicitDefEqProofs [g64, g65, hlt']
      exact ⟨t1, t2, t3, by simp [g4], by simp [g5], ⟨z, c2, hz⟩, c3⟩
  rintro t hh ⟨t1, t2, t3, g4, g5, ⟨z, c2, hz⟩, c3⟩
  have e9 : partL v l vs = ⟨vs.filterMap (bookV l), vs.filterMap (cellsV l), vs.filterMap (intentV l), heldL v l, incL l, lastL l⟩ := rfl
  rw [e9] at c3
  rw [eSt3] at c3
  simp -implicitDefEqProofs [g4, g5, c2, hz, c3, n23, n32, eSt, rowsVB, rowsVC, rowsVI]
end Go.Proofs.YtjbbfiagijjdoaaGreat

/- Contracts: the state behind records. No condition. -/
set_option linter.unusedSimpArgs false
set_option linter.unusedVariables false
set_option maxRecDepth 10000
namespace Go.Proofs.YtjbbfiagijjdoaaGreat
open Go Go.Rw Go.Proofs
-- a goal is never to be run by the elaborator
attribute [local irreducible] awp aops aop aopsE aeff

def FoI (v : PView) (l : List PRec) (b2 b3 : Nat) (t : Nat → AV) (h : Nat → Option (List AV)) : Prop := ∃ k : Nat, t 4 = .ptr b2 0 ∧ t 5 = .ptr b3 0 ∧ t 10 = .sl .no (eRs l) ∧ t 11 = eI l.length ∧ t 12 = eI k ∧ k ≤ l.length ∧ (∃ z, h b2 = some z ∧ z.length = 7) ∧ h b3 = some (eSt (foldS v (l.take k)))
def FoM (v : PView) (l : List PRec) (b2 b3 : Nat) (t : Nat → AV) (h : Nat → Option (List AV)) : Prop := t 4 = .ptr b2 0 ∧ t 5 = .ptr b3 0 ∧ (∃ z, h b2 = some z ∧ z.length = 7) ∧ h b3 = some (eSt (foldS v l))
theorem fold_spec (v : PView) (l : List PRec) (hv : rightV v = true) (hl : ∀ r ∈ l, rightR r = true) (hn : l.length ≤ 100000) : ASpec Tryz.prog 20 [.agg (eV v), .sl .no (eRs l)] (· = .agg (eSt (foldS v l))) := by
  refine ASpec.of_awp Tryz.func20 (by kernel_rfl) rfl (by rw [Tryz.results20]) Tryz.ntmps20 ?_
  simp -implicitDefEqProofs [eV]
  refine allocK.intro (fun b1 hb1 => ?_)
  simp -implicitDefEqProofs
  refine allocK.intro (fun b2 hb2 => ?_)
  have n12 : ¬ b1 = b2 := by rintro rfl; simp at hb2
  have n21 : ¬ b2 = b1 := fun h => n12 h.symm
  simp -implicitDefEqProofs [n12, n21]
  refine CallK.with (new_spec v) (by simp [eV]) ?_
  simp -implicitDefEqProofs [eSt]
  refine allocK.intro (fun b3 hb3 => ?_)
  have n13 : ¬ b1 = b3 := by rintro rfl; simp [n12] at hb3
  have n31 : ¬ b3 = b1 := fun h => n13 h.symm
  have n23 : ¬ b2 = b3 := by rintro rfl; simp at hb3
  have n32 : ¬ b3 = b2 := fun h => n23 h.symm
  simp -implicitDefEqProofs [n12, n21, n13, n31, n23, n32]
  intro _
  refine loopK.post (FoI v l b2 b3) (fun t => l.length - natOf (t 12)) (FoM v l b2 b3) ?_ ?_ ?_
  · exact ⟨0, by simp, by simp, by simp, by simp, by simp, by omega, ⟨[.sl .nil [], .sl .nil [], .sl .nil [], eI 0, eI 0, eI 0, eI 0], by simp [n23, n21], rfl⟩, by simp [foldS, newS, eSt]⟩
  · rintro t hh ⟨k, g4, g5, g10, g11, g12, hk, ⟨z, kz, hz⟩, k3⟩
    by_cases hlt : k < l.length
    · have hlt' : (k : Int) < (l.length : Int) := by omega
      obtain ⟨r, hx⟩ : ∃ r, l[k]? = some r := ⟨l[k], by simp [hlt]⟩
      have hw : IntKind.i64.wrap ((k : Int) + 1) = ((k + 1 : Nat) : Int) := by rw [w64 (by omega) (by omega)]; omega
      have hok := okN_fold hv hl k hk
      have hr := hl r (List.mem_of_getElem? hx)
      have hst := foldS_step (v := v) hx
      generalize foldS v (l.take k) = s at *
      have hap := apply_spec s r (hok.ok (by omega)) (right_cell hr).1 (hok.news hr)
      generalize applyS s r = s2 at *
      simp -implicitDefEqProofs [g10, g11, g12, hlt', hx, eRc]
      refine allocK.intro (fun b4 hb4 => ?_)
      have n24 : ¬ b2 = b4 := by rintro rfl; rw [kz] at hb4; simp at hb4
      have n42 : ¬ b4 = b2 := fun h => n24 h.symm
      have n34 : ¬ b3 = b4 := by rintro rfl; rw [k3] at hb4; simp at hb4
      have n43 : ¬ b4 = b3 := fun h => n34 h.symm
      rw [eSt] at k3
      simp -implicitDefEqProofs [g5, k3, n23, n32, n24, n42, n34, n43]
      refine CallK.with hap (by simp [eSt, eRc]) ?_
      simp -implicitDefEqProofs [g5, k3, n23, n32, n24, n42, n34, n43, g12, hw, eSt]
      exact ⟨⟨k + 1, by simp [g4], by simp [g5], by simp [g10], by simp [g11], by simp, by omega, ⟨z, by simp [n23, n24, kz], hz⟩, by rw [hst]; simp [eSt]⟩, by omega⟩
    · have hlt' : ¬ (k : Int) < (l.length : Int) := by omega
      rw [List.take_of_length_le (by omega)] at k3
      simp -implicitDefEqProofs [g11, g12, hlt']
      exact ⟨by simp [g4], by simp [g5], ⟨z, kz, hz⟩, k3⟩
  rintro t hh ⟨g4, g5, ⟨z, kz, hz⟩, k3⟩
  generalize foldS v l = s at *
  rw [eSt] at k3
  simp -implicitDefEqProofs [g4, g5, kz, k3, hz, n23, n32, eSt]
end Go.Proofs.YtjbbfiagijjdoaaGreat

/- Contracts: lists of what is told of views (api.ViewBook) that are the same. Printed by sort/gen.py. No condition. -/
set_option linter.unusedSimpArgs false
set_option linter.unusedVariables false
set_option maxRecDepth 10000
namespace Go.Proofs.YtjbbfiagijjdoaaGreat
open Go Go.Rw Go.Proofs
-- a goal is never to be run by the elaborator
attribute [local irreducible] awp aops aop aopsE aeff

def sameVB (x y : PVB) : Bool := decide (x.view = y.view) && sameEs x.book y.book
def sameVBs : List PVB → List PVB → Bool
  | [], [] => true
  | x :: l, y :: m => sameVB x y && sameVBs l m
  | _, _ => false
def EqVBI (a b : List PVB) (t : Nat → AV) (_ : Nat → Option (List AV)) : Prop := ∃ k : Nat, t 15 = .sl .no (rowsVB a) ∧ t 1 = .sl .no (rowsVB b) ∧ t 2 = .fn 122 [] ∧ t 16 = .v (.int .i64 a.length) ∧ t 17 = .v (.int .i64 k) ∧ k ≤ a.length ∧ sameVBs (a.drop k) (b.drop k) = sameVBs a b
end Go.Proofs.YtjbbfiagijjdoaaGreat

/- Contracts: lists of what is told of views (api.ViewCells) that are the same. Printed by sort/gen.py. No condition. -/
set_option linter.unusedSimpArgs false
set_option linter.unusedVariables false
set_option maxRecDepth 10000
namespace Go.Proofs.YtjbbfiagijjdoaaGreat
open Go Go.Rw Go.Proofs
-- a goal is never to be run by the elaborator
attribute [local irreducible] awp aops aop aopsE aeff

def sameVC (x y : PVC) : Bool := decide (x.view = y.view) && decide (x.cells = y.cells)
def sameVCs : List PVC → List PVC → Bool
  | [], [] => true
  | x :: l, y :: m => sameVC x y && sameVCs l m
  | _, _ => false
def EqVCI (a b : List PVC) (t : Nat → AV) (_ : Nat → Option (List AV)) : Prop := ∃ k : Nat, t 15 = .sl .no (rowsVC a) ∧ t 1 = .sl .no (rowsVC b) ∧ t 2 = .fn 124 [] ∧ t 16 = .v (.int .i64 a.length) ∧ t 17 = .v (.int .i64 k) ∧ k ≤ a.length ∧ sameVCs (a.drop k) (b.drop k) = sameVCs a b
end Go.Proofs.YtjbbfiagijjdoaaGreat

/- Contracts: are two states the same? No condition. -/
set_option linter.unusedSimpArgs false
set_option linter.unusedVariables false
set_option maxRecDepth 10000
namespace Go.Proofs.YtjbbfiagijjdoaaGreat
open Go Go.Rw Go.Proofs
-- a goal is never to be run by the elaborator
attribute [local irreducible] awp aops aop aopsE aeff

def EqiI (a b : List PVI) (t : Nat → AV) (_ : Nat → Option (List AV)) : Prop := ∃ k : Nat, t 0 = .sl .no (rowsVI a) ∧ t 1 = .sl .no (rowsVI b) ∧ t 12 = .v (.int .i64 a.length) ∧ t 13 = .v (.int .i64 k) ∧ k ≤ a.length ∧ a.take k = b.take k
theorem viEq {x y : PVI} : x = y ↔ x.view.add = y.view.add ∧ x.view.del = y.view.del ∧ x.change.add = y.change.add ∧ x.change.del = y.change.del := by
  obtain ⟨⟨a1, d1⟩, ⟨c1, e1⟩⟩ := x
  obtain ⟨⟨a2, d2⟩, ⟨c2, e2⟩⟩ := y
  simp [and_assoc]
instance : DecidableEq PVI := fun x y => decidable_of_iff _ viEq.symm
/-- the same state -/
def sameSt (a b : PState) : Bool := sameVBs a.books b.books && (sameVCs a.cells b.cells && (decide (a.intents = b.intents) && (decide (a.held = b.held) && (decide (a.inc = b.inc) && decide (a.last = b.last)))))
end Go.Proofs.YtjbbfiagijjdoaaGreat

/- Contracts: what a node answers. No condition. -/
set_option linter.unusedSimpArgs false
set_option linter.unusedVariables false
set_option maxRecDepth 10000
namespace Go.Proofs.YtjbbfiagijjdoaaGreat
open Go Go.Rw Go.Proofs
-- a goal is never to be run by the elaborator
attribute [local irreducible] awp aops aop aopsE aeff

def eMq (t1 t2 : Tag) (m : PMsg) : List AV := [eI m.kind, eI m.frm, eI m.to, eI m.inc, eI m.seq, eI m.view.add, eI m.view.del, .sl t1 (eCs m.cells), .sl t2 (eEs m.book)]
/-- what a node answers, as a caller has it -/
def serveA (me : Int) (s : PState) (q : PMsg) : AV := .tup [.sl .no (eRs (recsS me s q)), .agg (eM (answerS me s q)), .v (.bool (servable me q))]
def ServeR (me : Int) (s : PState) (q : PMsg) (r : AV) : Prop := r = serveA me s q
theorem servable_no {me : Int} {q : PMsg} (h : ¬ (q.to = me ∧ 0 ≤ q.kind ∧ q.kind ≤ 4)) : servable me q = false := by
  unfold servable
  rw [Bool.and_eq_false_iff, decide_eq_false_iff_not, decide_eq_false_iff_not]
  by_cases h1 : q.to = me
  · exact .inr fun h2 => h ⟨h1, h2⟩
  · exact .inl h1
theorem ServeR.no {me : Int} {s : PState} {q : PMsg} (h : ¬ (q.to = me ∧ 0 ≤ q.kind ∧ q.kind ≤ 4)) : ServeR me s q (.tup [.sl .no [], .agg [eI 0, eI 0, eI 0, eI 0, eI 0, eI 0, eI 0, .sl .no [], .sl .no []], .v (.bool false)]) := by
  unfold ServeR
  rw [serveA, recsS, answerS, servable_no h]
  rfl
theorem ServeR.yes {me : Int} {s : PState} {q : PMsg} (h : q.to = me) (h1 : 0 ≤ q.kind) (h2 : q.kind ≤ 4) {r : AV} (hr : r = .tup [.sl .no (eRs (wroteS s q)), .agg (eM (tellS me s q)), .v (.bool true)]) : ServeR me s q r := by
  have e : servable me q = true := by simp [servable, h, h1, h2]
  unfold ServeR
  rw [serveA, recsS, answerS, e]
  exact hr
def SvM (me : Int) (s : PState) (q : PMsg) (b3 b4 : Nat) (t : Nat → AV) (h : Nat → Option (List AV)) : Prop := ∃ tag : Tag, t 7 = .ptr b3 0 ∧ t 10 = .ptr b4 0 ∧ t 9 = .sl tag (eRs (wroteS s q)) ∧ (∃ z, h b3 = some z ∧ z.length = 9) ∧ h b4 = some (eMq .nil .nil (ansM me q))
def SvC (me : Int) (s : PState) (q : PMsg) (l : List PCell) (b2 b3 b4 : Nat) (t : Nat → AV) (h : Nat → Option (List AV)) : Prop := ∃ (k : Nat) (tag : Tag), t 5 = .ptr b2 0 ∧ t 7 = .ptr b3 0 ∧ t 10 = .ptr b4 0 ∧ t 9 = .sl tag (eRs ((l.take k).map (recC q.view))) ∧ appOK tag 66 11 ∧ t 57 = .sl .no (eCs l) ∧ t 58 = eI l.length ∧ t 59 = eI k ∧ k ≤ l.length ∧ h b2 = some (eM q) ∧ (∃ z, h b3 = some z ∧ z.length = 9) ∧ h b4 = some (eMq .nil .nil (ansM me q))
def SvE (me : Int) (s : PState) (q : PMsg) (l : List PEntry) (b2 b3 b4 : Nat) (t : Nat → AV) (h : Nat → Option (List AV)) : Prop := ∃ (k : Nat) (tag : Tag), t 5 = .ptr b2 0 ∧ t 7 = .ptr b3 0 ∧ t 10 = .ptr b4 0 ∧ t 9 = .sl tag (eRs ((l.take k).map (recE q.view))) ∧ appOK tag 66 11 ∧ t 79 = .sl .no (eEs l) ∧ t 80 = eI l.length ∧ t 81 = eI k ∧ k ≤ l.length ∧ h b2 = some (eM q) ∧ (∃ z, h b3 = some z ∧ z.length = 9) ∧ h b4 = some (eMq .nil .nil (ansM me q))
end Go.Proofs.YtjbbfiagijjdoaaGreat

/- Contracts: texts; records. No condition. -/
set_option linter.unusedSimpArgs false
set_option linter.unusedVariables false
set_option maxRecDepth 10000
namespace Go.Proofs.YtjbbfiagijjdoaaGreat
open Go Go.Rw Go.Proofs
-- a goal is never to be run by the elaborator
attribute [local irreducible] awp aops aop aopsE aeff

@[simp] theorem take_len_drop {α : Type} (l : List α) (n : Nat) : (l.drop n).take (l.length - n) = l.drop n := List.take_of_length_le (by simp)
def textA (b t : List UInt8) : AV := if 4000 < t.length then .tup [.sl .no [], eI 21] else .tup [.sl .no (eB (b ++ formF t.length ++ t)), eI 0]
def cutA (o : Option (List UInt8 × List UInt8)) : AV := match o with
  | some (t, r) => .tup [.sl .no (eB t), .sl .no (eB r), eI 0]
  | none => .tup [.sl .no [], .sl .no [], eI 21]
end Go.Proofs.YtjbbfiagijjdoaaGreat

/- Contracts: which records can be, and their bytes. No condition. -/
set_option linter.unusedSimpArgs false
set_option linter.unusedVariables false
set_option maxRecDepth 10000
namespace Go.Proofs.YtjbbfiagijjdoaaGreat
open Go Go.Rw Go.Proofs
-- a goal is never to be run by the elaborator
attribute [local irreducible] awp aops aop aopsE aeff

end Go.Proofs.YtjbbfiagijjdoaaGreat

/- Contracts: records as numbers and bytes. No condition. -/
set_option linter.unusedSimpArgs false
set_option linter.unusedVariables false
set_option maxRecDepth 10000
namespace Go.Proofs.YtjbbfiagijjdoaaGreat
open Go Go.Rw Go.Proofs

def Nums (r : PRec) (x : AV) : Prop := ∃ tag, x = .sl tag (eU (numsR r))
def bytesA (o : Option (List UInt8)) : AV := match o with
  | some l => .tup [.sl .no (eB l), eI 0]
  | none => .tup [.sl .no [], eI 91]
end Go.Proofs.YtjbbfiagijjdoaaGreat

/- Contracts: records are read. No condition. -/
set_option linter.unusedSimpArgs false
set_option linter.unusedVariables false
set_option maxRecDepth 10000
namespace Go.Proofs.YtjbbfiagijjdoaaGreat
open Go Go.Rw Go.Proofs

def viewA (n : Nat) : AV := .tup [.agg (eV ((nmdV n).getD zV)), .v (.bool (nmdV n).isSome)]
/-- what is read: a record, if it can be -/
def OptR (o : Option PRec) (x : AV) : Prop := ∃ r, x = .tup [.agg (eRc r), .v (.bool o.isSome)] ∧ ∀ r', o = some r' → r' = r
end Go.Proofs.YtjbbfiagijjdoaaGreat

/- Contracts: log.one, log.Scan, log.Same. No condition. -/
set_option linter.unusedSimpArgs false
set_option linter.unusedVariables false
set_option maxRecDepth 10000
namespace Go.Proofs.YtjbbfiagijjdoaaGreat
open Go Go.Rw Go.Proofs

def LoneI (t0 body : List UInt8) (b : Nat) (t : Nat → AV) (h : Nat → Option (List AV)) : Prop := ∃ (k : Nat) (rest : List UInt8) (cur : List Nat) (tag : Tag), t 0 = .sl .no (eB t0) ∧ t 2 = .ptr b 0 ∧ t 4 = .sl .no (eB rest) ∧ t 6 = .sl tag (eU cur) ∧ appOK tag 166 1 ∧
  h b = some (eRc zR) ∧ rest.length ≤ k ∧ rest.length + cur.length ≤ body.length ∧ allF body = (getsF k rest).map (cur ++ ·)
def LoneM (body : List UInt8) (b : Nat) (t : Nat → AV) (h : Nat → Option (List AV)) : Prop := ∃ (cur : List Nat) (tag : Tag), t 2 = .ptr b 0 ∧ t 6 = .sl tag (eU cur) ∧ h b = some (eRc zR) ∧ allF body = some cur
def scanA (b : List UInt8) : AV := .tup [.sl .no (eRs (scanR b).1), eI (scanR b).2]
def ScI (b : List UInt8) (t : Nat → AV) (h : Nat → Option (List AV)) : Prop := ∃ (n : Nat) (cur : List PRec) (tag : Tag), t 0 = .sl .no (eB b) ∧ t 4 = .sl tag (eRs cur) ∧ t 5 = eI n ∧ appOK tag 66 11 ∧ n ≤ b.length ∧ cur.length ≤ n ∧
  scanR b = (cur ++ (scanR (b.drop n)).1, n + (scanR (b.drop n)).2)
def ScM (b : List UInt8) (t : Nat → AV) (h : Nat → Option (List AV)) : Prop := ∃ tag, t 4 = .sl tag (eRs (scanR b).1) ∧ t 5 = eI (scanR b).2
end Go.Proofs.YtjbbfiagijjdoaaGreat

/- Contracts: log.Same. No condition. -/
set_option linter.unusedSimpArgs false
set_option linter.unusedVariables false
set_option maxRecDepth 10000
namespace Go.Proofs.YtjbbfiagijjdoaaGreat
open Go Go.Rw Go.Proofs

def EqrI (a b : List PRec) (t : Nat → AV) (_ : Nat → Option (List AV)) : Prop := ∃ k : Nat, t 15 = .sl .no (eRs a) ∧ t 1 = .sl .no (eRs b) ∧ t 2 = .fn 129 [] ∧ t 16 = .v (.int .i64 a.length) ∧ t 17 = .v (.int .i64 k) ∧ k ≤ a.length ∧ sameRs (a.drop k) (b.drop k) = sameRs a b

end Go.Proofs.YtjbbfiagijjdoaaGreat

/- Plain: whether a record can be, told otherwise. -/
set_option linter.unusedSimpArgs false
set_option linter.unusedVariables false
set_option maxRecDepth 10000
namespace Go.Proofs.YtjbbfiagijjdoaaGreat
open Go Go.Rw Go.Proofs

def chg9 (r : PRec) : Bool := rightV r.cell.change && !decide (r.cell.change = zV)
def right9F (r : PRec) : Bool :=
  if r.kind = 1 then rightV r.view && checkE (-1) [r.entry] && sameR ⟨0, zV, r.cell, zE, r.n⟩ zR
  else if r.kind = 2 then rightV r.view && chg9 r && decide (0 ≤ r.cell.node ∧ r.cell.node ≤ 5) && sameR ⟨0, zV, zC, r.entry, r.n⟩ zR
  else if r.kind = 3 then rightV r.view && sameR ⟨0, zV, r.cell, r.entry, r.n⟩ zR
  else if r.kind = 4 ∨ r.kind = 6 then decide (1 ≤ r.n ∧ r.n ≤ 1000000) && sameR ⟨0, r.view, r.cell, r.entry, 0⟩ zR
  else if r.kind = 5 then rightV r.view && chg9 r && sameR ⟨0, zV, ⟨r.cell.node, zV⟩, r.entry, r.n⟩ zR
  else false
theorem sizeV_pos {v : PView} (h : rightV v = true) : 0 < sizeV v ↔ ¬ v = zV := by
  have e : sizeV v = (popN 64 v.add.toNat : Int) + popN 64 v.del.toNat := by unfold sizeV; rfl
  have h0 : 0 ≤ sizeV v := by rw [e]; omega
  have hz := sizeV_zero h
  obtain ⟨a, b⟩ := v
  constructor
  · rintro h1 h2
    cases h2
    have := hz.2 ⟨rfl, rfl⟩
    omega
  · intro h1
    have : ¬ sizeV ⟨a, b⟩ = 0 := fun h2 => h1 (by obtain ⟨h3, h4⟩ := hz.1 h2; simp at h3 h4; rw [h3, h4]; rfl)
    omega
theorem right9_eq (r : PRec) : right9F r = rightR r := by
  obtain ⟨k, v, ⟨cn, cc⟩, e, n⟩ := r
  rw [Bool.eq_iff_iff]
  unfold right9F rightR chg9
  by_cases k1 : k = 1
  · subst k1
    simp [sameR_iff, sameE_zero, zR, bareR, sameE_iff]
    constructor
    · rintro ⟨⟨h1, h2⟩, h3, h4⟩
      cases h3
      exact ⟨⟨⟨⟨⟨rfl, h4⟩, h1⟩, rightV_zero⟩, by omega, by omega⟩, h2⟩
    · rintro ⟨⟨⟨⟨⟨h3, h4⟩, h1⟩, _⟩, _⟩, h2⟩
      exact ⟨⟨h1, h2⟩, h3, h4⟩
  by_cases k2 : k = 2
  · subst k2
    by_cases hc : rightV cc = true
    · have hp := sizeV_pos hc
      simp [sameR_iff, sameE_zero, zR, bareR, sameE_iff, hc, hp]
      constructor
      · rintro ⟨⟨⟨h1, h2⟩, h3, h4⟩, h5, h6⟩
        exact ⟨⟨⟨⟨h5, h6⟩, h1⟩, h3, by omega⟩, h2⟩
      · rintro ⟨⟨⟨⟨h5, h6⟩, h1⟩, h3, h4⟩, h2⟩
        exact ⟨⟨⟨h1, h2⟩, h3, by omega⟩, h5, h6⟩
    · simp [hc]
  by_cases k3 : k = 3
  · subst k3
    simp [sameR_iff, sameE_zero, zR, bareR, sameE_iff]
    constructor
    · rintro ⟨h1, h2, h3⟩
      cases h2
      exact ⟨⟨⟨⟨rfl, h3⟩, h1⟩, rightV_zero⟩, by omega, by omega⟩
    · rintro ⟨⟨⟨⟨h2, h3⟩, h1⟩, _⟩, _⟩
      exact ⟨h1, h2, h3⟩
  by_cases k46 : k = 4 ∨ k = 6
  · have k5 : ¬ k = 5 := by omega
    simp [sameR_iff, sameE_zero, zR, bareR, sameE_iff, k1, k2, k3, k5, k46]
    constructor
    · rintro ⟨h1, h2, h3, h4⟩
      cases h3
      cases h2
      exact ⟨⟨⟨⟨⟨by omega, rfl, rfl, h4⟩, rightV_zero⟩, rightV_zero⟩, by omega, by omega⟩, h1⟩
    · rintro ⟨⟨⟨⟨⟨_, h2, h3, h4⟩, _⟩, _⟩, _⟩, h1⟩
      exact ⟨h1, h2, h3, h4⟩
  by_cases k5 : k = 5
  · subst k5
    by_cases hc : rightV cc = true
    · have hp := sizeV_pos hc
      simp [sameR_iff, sameE_zero, zR, bareR, sameE_iff, hc, hp]
      constructor
      · rintro ⟨⟨h1, h2⟩, h3, h4⟩
        cases h3
        exact ⟨⟨⟨⟨rfl, h4⟩, h1⟩, by omega, by omega⟩, h2⟩
      · rintro ⟨⟨⟨⟨rfl, h4⟩, h1⟩, _⟩, h2⟩
        exact ⟨⟨h1, h2⟩, rfl, h4⟩
    · simp [hc]
  · have : ¬ (1 ≤ k ∧ k ≤ 6) := by omega
    simp only [if_neg k1, if_neg k2, if_neg k3, if_neg k46, if_neg k5, decide_eq_false this, Bool.false_and]
end Go.Proofs.YtjbbfiagijjdoaaGreat

/- Contracts: records, told otherwise: alike, Same. No condition. -/
set_option linter.unusedSimpArgs false
set_option linter.unusedVariables false
set_option maxRecDepth 10000
namespace Go.Proofs.YtjbbfiagijjdoaaGreat
open Go Go.Rw Go.Proofs
-- a goal is never to be run by the elaborator
attribute [local irreducible] awp aops aop aopsE aeff

theorem alike9_spec (a b : PRec) (ha : fitR a) (hb : fitR b) : ASpec Tryz.prog 78 [.agg (eRc a), .agg (eRc b)] (· = .v (.bool (sameR a b))) := by
  refine ASpec.of_awp Tryz.func78 (by kernel_rfl) rfl (by rw [Tryz.results78]) Tryz.ntmps78 ?_
  simp -implicitDefEqProofs [eRc]
  refine allocK.intro (fun b1 hb1 => ?_)
  simp -implicitDefEqProofs
  refine allocK.intro (fun b2 hb2 => ?_)
  have hbb : ¬ b1 = b2 := by rintro rfl; simp at hb2
  have hbb' : ¬ b2 = b1 := fun h => hbb h.symm
  by_cases h1 : a.kind = b.kind
  · by_cases h2 : a.view.add = b.view.add ∧ a.view.del = b.view.del
    · obtain ⟨h2, h3⟩ := h2
      by_cases h4 : a.cell.node = b.cell.node ∧ a.cell.change.add = b.cell.change.add ∧ a.cell.change.del = b.cell.change.del
      · obtain ⟨h4, h5, h6⟩ := h4
        by_cases h7 : a.n = b.n
        · simp -implicitDefEqProofs [hbb, hbb', h1, h2, h3, h4, h5, h6, h7]
          refine CallK.with (alike7_spec a.entry b.entry ha hb) (by simp [eE]) ?_
          simp -implicitDefEqProofs [hbb, hbb', h1, h2, h3, h4, h5, h6, h7, sameR]
        · simp -implicitDefEqProofs [hbb, hbb', h1, h2, h3, h4, h5, h6, h7, sameR]
      · have h4' : sameR a b = false := by
          by_cases q : a.cell.node = b.cell.node
          · by_cases q2 : a.cell.change.add = b.cell.change.add
            · have q3 : ¬ a.cell.change.del = b.cell.change.del := fun q3 => h4 ⟨q, q2, q3⟩
              simp [sameR, q3]
            · simp [sameR, q2]
          · simp [sameR, q]
        have h4'' : (a.cell.node == b.cell.node && (a.cell.change.add == b.cell.change.add && a.cell.change.del == b.cell.change.del)) = false := by simpa using h4
        simp -implicitDefEqProofs [hbb, hbb', h1, h2, h3, h4', h4'']
    · have h4' : sameR a b = false := by
        by_cases q : a.view.add = b.view.add
        · have q3 : ¬ a.view.del = b.view.del := fun q3 => h2 ⟨q, q3⟩
          simp [sameR, q3]
        · simp [sameR, q]
      have h4'' : (a.view.add == b.view.add && a.view.del == b.view.del) = false := by simpa using h2
      simp -implicitDefEqProofs [hbb, hbb', h1, h4', h4'']
  · simp -implicitDefEqProofs [hbb, hbb', h1, sameR]

def S9I (a b : List PRec) (t : Nat → AV) (_ : Nat → Option (List AV)) : Prop := ∃ k : Nat, t 0 = .sl .no (eRs a) ∧ t 1 = .sl .no (eRs b) ∧ t 12 = eI a.length ∧ t 13 = eI k ∧ k ≤ a.length ∧ sameRs (a.drop k) (b.drop k) = sameRs a b
theorem fitR_zero : fitR zR := by simp [fitR, zR, zE]
theorem seq_cut {P : Program} {x y : Code} {n : Nat} {t : Nat → AV} {h : Nat → Option (List AV)} {Q : AExit → ASt → Prop} (M : (Nat → AV) → (Nat → Option (List AV)) → Prop) (hx : awp P x (cutQ M n Q) ⟨n, t, h⟩)
    (hy : ∀ t h, M t h → awp P y Q ⟨n, t, h⟩) : awp P (.seq x y) Q ⟨n, t, h⟩ := by
  rw [awp_seqQ]
  exact awp_mono x (cutQ_use hy) hx
theorem chg_ne (v : PView) : (!v.add == 0 || !v.del == 0) = !decide (v = zV) := by
  obtain ⟨a, b⟩ := v
  by_cases h1 : a = 0 <;> by_cases h2 : b = 0 <;> simp [zV, h1, h2]
def R9N (r : PRec) (b1 : Nat) (t : Nat → AV) (h : Nat → Option (List AV)) : Prop := t 1 = .ptr b1 0 ∧ h b1 = some (eRc r) ∧ t 3 = .v (.bool (rightV r.view)) ∧ t 4 = .v (.bool (chg9 r)) ∧ t 5 = .v (.bool (decide (0 ≤ r.cell.node ∧ r.cell.node ≤ 5)))
def R9O (r : PRec) (b1 : Nat) (t : Nat → AV) (h : Nat → Option (List AV)) : Prop := t 1 = .ptr b1 0 ∧ h b1 = some (eRc r) ∧ t 3 = .v (.bool (rightV r.view)) ∧ t 4 = .v (.bool (chg9 r)) ∧ t 5 = .v (.bool (decide (0 ≤ r.cell.node ∧ r.cell.node ≤ 5))) ∧ t 6 = .v (.bool (decide (1 ≤ r.n ∧ r.n ≤ 1000000)))
def R9M (r : PRec) (b1 : Nat) (t : Nat → AV) (h : Nat → Option (List AV)) : Prop := t 1 = .ptr b1 0 ∧ h b1 = some (eRc r) ∧ t 3 = .v (.bool (rightV r.view)) ∧ t 4 = .v (.bool (chg9 r))
theorem right9_spec (r : PRec) (hf : fitR r) : ASpec Tryz.prog 49 [.agg (eRc r)] (· = .v (.bool (right9F r))) := by
  refine ASpec.of_awp Tryz.func49 (by kernel_rfl) rfl (by rw [Tryz.results49]) Tryz.ntmps49 ?_
  simp -implicitDefEqProofs [eRc]
  refine allocK.intro (fun b1 hb1 => ?_)
  simp -implicitDefEqProofs
  refine regionK.cut (R9M r b1) ?_ ?_
  · refine regionK.intro 15 follows_mixed (by kernel_rfl) ?_
    simp -implicitDefEqProofs
    refine CallQ.with (right4_spec r.view) (by simp [eV]) ?_
    simp -implicitDefEqProofs
    refine CallQ.with (right4_spec r.cell.change) (by simp [eV]) ?_
    cases hc : rightV r.cell.change
    · simp -implicitDefEqProofs
      exact ⟨by simp, by simp [eRc], by simp, by simp [chg9, hc]⟩
    · simp -implicitDefEqProofs
      exact ⟨by simp, by simp [eRc], by simp, by simp [chg9, hc]; exact chg_ne _⟩
  · rintro t h ⟨g1, gh, g3, g4⟩
    refine seq_cut (R9N r b1) ?_ ?_
    · rw [eRc] at gh
      by_cases n1 : 0 ≤ r.cell.node
      · simp -implicitDefEqProofs [g1, gh, n1]
        exact ⟨by simp [g1], by simp [gh, eRc], by simp [g3], by simp [g4], by simp [n1]⟩
      · simp -implicitDefEqProofs [g1, gh, n1]
        exact ⟨by simp [g1], by simp [gh, eRc], by simp [g3], by simp [g4], by simp [n1]⟩
    rintro t h ⟨g1, gh, g3, g4, g5⟩
    refine seq_cut (R9O r b1) ?_ ?_
    · rw [eRc] at gh
      by_cases n1 : 1 ≤ r.n
      · simp -implicitDefEqProofs [g1, gh, n1]
        exact ⟨by simp [g1], by simp [gh, eRc], by simp [g3], by simp [g4], by simp [g5], by simp [n1]⟩
      · simp -implicitDefEqProofs [g1, gh, n1]
        exact ⟨by simp [g1], by simp [gh, eRc], by simp [g3], by simp [g4], by simp [g5], by simp [n1]⟩
    rintro t h ⟨g1, gh, g3, g4, g5, g6⟩
    rw [eRc] at gh
    simp -implicitDefEqProofs [g1, gh, g3, g4, g5, g6]
    refine allocK.intro (fun b2 hb2 => ?_)
    have n1 : ¬ b1 = b2 := by rintro rfl; rw [gh] at hb2; simp at hb2
    have n1' : ¬ b2 = b1 := fun h => n1 h.symm
    by_cases k1 : r.kind = 1
    · have e : right9F r = (rightV r.view && checkE (-1) [r.entry] && sameR ⟨0, zV, r.cell, zE, r.n⟩ zR) := by unfold right9F; rw [if_pos k1]
      rw [e]
      cases hv : rightV r.view
      · simp -implicitDefEqProofs [g1, gh, g3, g4, g5, g6, n1, n1', k1, hv]
      · simp -implicitDefEqProofs [g1, gh, g3, g4, g5, g6, n1, n1', k1, hv]
        refine CallK.with (check7_spec [r.entry]) (by simp [eEs, eE]) ?_
        cases hE : checkE (-1) [r.entry]
        · simp -implicitDefEqProofs [g1, gh, g3, g4, g5, g6, n1, n1', k1, hv]
        · simp -implicitDefEqProofs [g1, gh, g3, g4, g5, g6, n1, n1', k1, hv]
          refine CallK.with (alike9_spec ⟨0, zV, r.cell, zE, r.n⟩ zR (by first | exact hf | exact fitR_zero) fitR_zero) (by simp [eRc, zR, zV, zC, zE]) ?_
          simp -implicitDefEqProofs
    by_cases k2 : r.kind = 2
    · have e : right9F r = (rightV r.view && chg9 r && decide (0 ≤ r.cell.node ∧ r.cell.node ≤ 5) && sameR ⟨0, zV, zC, r.entry, r.n⟩ zR) := by unfold right9F; rw [if_neg k1, if_pos k2]
      rw [e]
      cases hv : rightV r.view
      · simp -implicitDefEqProofs [g1, gh, g3, g4, g5, g6, n1, n1', k1, k2, hv]
      cases hc : chg9 r
      · simp -implicitDefEqProofs [g1, gh, g3, g4, g5, g6, n1, n1', k1, k2, hv, hc]
      by_cases hn : 0 ≤ r.cell.node ∧ r.cell.node ≤ 5
      · rw [decide_eq_true hn] at g5 ⊢
        simp -implicitDefEqProofs [g1, gh, g3, g4, g5, g6, n1, n1', k1, k2, hv, hc]
        refine CallK.with (alike9_spec ⟨0, zV, zC, r.entry, r.n⟩ zR (by first | exact hf | exact fitR_zero) fitR_zero) (by simp [eRc, zR, zV, zC, zE]) ?_
        simp -implicitDefEqProofs
      · rw [decide_eq_false hn] at g5 ⊢
        simp -implicitDefEqProofs [g1, gh, g3, g4, g5, g6, n1, n1', k1, k2, hv, hc]
    by_cases k3 : r.kind = 3
    · have e : right9F r = (rightV r.view && sameR ⟨0, zV, r.cell, r.entry, r.n⟩ zR) := by unfold right9F; rw [if_neg k1, if_neg k2, if_pos k3]
      rw [e]
      cases hv : rightV r.view
      · simp -implicitDefEqProofs [g1, gh, g3, g4, g5, g6, n1, n1', k1, k2, k3, hv]
      · simp -implicitDefEqProofs [g1, gh, g3, g4, g5, g6, n1, n1', k1, k2, k3, hv]
        refine CallK.with (alike9_spec ⟨0, zV, r.cell, r.entry, r.n⟩ zR (by first | exact hf | exact fitR_zero) fitR_zero) (by simp [eRc, zR, zV, zC, zE]) ?_
        simp -implicitDefEqProofs
    by_cases k4 : r.kind = 4
    · have e : right9F r = (decide (1 ≤ r.n ∧ r.n ≤ 1000000) && sameR ⟨0, r.view, r.cell, r.entry, 0⟩ zR) := by unfold right9F; rw [if_neg k1, if_neg k2, if_neg k3, if_pos (.inl k4)]
      rw [e]
      by_cases hn : 1 ≤ r.n ∧ r.n ≤ 1000000
      · rw [decide_eq_true hn] at g6 ⊢
        simp -implicitDefEqProofs [g1, gh, g3, g4, g5, g6, n1, n1', k1, k2, k3, k4]
        refine CallK.with (alike9_spec ⟨0, r.view, r.cell, r.entry, 0⟩ zR (by first | exact hf | exact fitR_zero) fitR_zero) (by simp [eRc, zR, zV, zC, zE]) ?_
        simp -implicitDefEqProofs
      · rw [decide_eq_false hn] at g6 ⊢
        simp -implicitDefEqProofs [g1, gh, g3, g4, g5, g6, n1, n1', k1, k2, k3, k4]
    by_cases k6 : r.kind = 6
    · have e : right9F r = (decide (1 ≤ r.n ∧ r.n ≤ 1000000) && sameR ⟨0, r.view, r.cell, r.entry, 0⟩ zR) := by unfold right9F; rw [if_neg k1, if_neg k2, if_neg k3, if_pos (.inr k6)]
      rw [e]
      by_cases hn : 1 ≤ r.n ∧ r.n ≤ 1000000
      · rw [decide_eq_true hn] at g6 ⊢
        simp -implicitDefEqProofs [g1, gh, g3, g4, g5, g6, n1, n1', k1, k2, k3, k4, k6]
        refine CallK.with (alike9_spec ⟨0, r.view, r.cell, r.entry, 0⟩ zR (by first | exact hf | exact fitR_zero) fitR_zero) (by simp [eRc, zR, zV, zC, zE]) ?_
        simp -implicitDefEqProofs
      · rw [decide_eq_false hn] at g6 ⊢
        simp -implicitDefEqProofs [g1, gh, g3, g4, g5, g6, n1, n1', k1, k2, k3, k4, k6]
    by_cases k5 : r.kind = 5
    · have e : right9F r = (rightV r.view && chg9 r && sameR ⟨0, zV, ⟨r.cell.node, zV⟩, r.entry, r.n⟩ zR) := by unfold right9F; rw [if_neg k1, if_neg k2, if_neg k3, if_neg (by omega), if_pos k5]
      rw [e]
      cases hv : rightV r.view
      · simp -implicitDefEqProofs [g1, gh, g3, g4, g5, g6, n1, n1', k1, k2, k3, k4, k6, k5, hv]
      cases hc : chg9 r
      · simp -implicitDefEqProofs [g1, gh, g3, g4, g5, g6, n1, n1', k1, k2, k3, k4, k6, k5, hv, hc]
      · simp -implicitDefEqProofs [g1, gh, g3, g4, g5, g6, n1, n1', k1, k2, k3, k4, k6, k5, hv, hc]
        refine CallK.with (alike9_spec ⟨0, zV, ⟨r.cell.node, zV⟩, r.entry, r.n⟩ zR (by first | exact hf | exact fitR_zero) fitR_zero) (by simp [eRc, zR, zV, zC, zE]) ?_
        simp -implicitDefEqProofs
    have e : right9F r = false := by unfold right9F; rw [if_neg k1, if_neg k2, if_neg k3, if_neg (by omega), if_neg k5]
    rw [e]
    simp -implicitDefEqProofs [g1, gh, g3, g4, g5, g6, n1, n1', k1, k2, k3, k4, k6, k5]
end Go.Proofs.YtjbbfiagijjdoaaGreat

/- Contracts: records' bytes, told otherwise. No condition. -/
set_option linter.unusedSimpArgs false
set_option linter.unusedVariables false
set_option maxRecDepth 10000
namespace Go.Proofs.YtjbbfiagijjdoaaGreat
open Go Go.Rw Go.Proofs

theorem right9r_spec (r : PRec) (hf : fitR r) : ASpec Tryz.prog 49 [.agg (eRc r)] (· = .v (.bool (rightR r))) := by
  rw [← right9_eq]; exact right9_spec r hf
end Go.Proofs.YtjbbfiagijjdoaaGreat

/- Contracts: the laws on replicas, what is alive and what can be. No condition. -/
set_option linter.unusedSimpArgs false
set_option linter.unusedVariables false
set_option maxRecDepth 10000
namespace Go.Proofs.YtjbbfiagijjdoaaGreat
open Go Go.Rw Go.Proofs
-- a goal is never to be run by the elaborator
attribute [local irreducible] awp aops aop aopsE aeff

def v7 : PView := ⟨7, 0⟩
def putM (n : Int) : PMsg := ⟨3, 1, 2, 1, 1, v7, [], [⟨1, ⟨n, 0⟩, 4616189618054758400⟩]⟩
theorem rightV_v7 : rightV v7 = true := by decide
def R13I (l : List PRec) (b1 : Nat) (q : PMsg) (me : Int) (t : Nat → AV) (h : Nat → Option (List AV)) : Prop := ∃ k : Nat, t 0 = eI me ∧ t 5 = .ptr b1 0 ∧ t 9 = .sl .no (eRs l) ∧ t 10 = eI l.length ∧ t 11 = eI k ∧ k ≤ l.length ∧ h b1 = some (eM q) ∧ ∀ r ∈ l.take k, rightR r = true
def R13M (l : List PRec) (b1 : Nat) (q : PMsg) (me : Int) (t : Nat → AV) (h : Nat → Option (List AV)) : Prop := t 0 = eI me ∧ t 5 = .ptr b1 0 ∧ h b1 = some (eM q) ∧ ∀ r ∈ l, rightR r = true
end Go.Proofs.YtjbbfiagijjdoaaGreat

/- Contracts: the views seen of a state in which nothing was written; what is alive of fold. No condition. -/
set_option linter.unusedSimpArgs false
set_option linter.unusedVariables false
set_option maxRecDepth 10000
namespace Go.Proofs.YtjbbfiagijjdoaaGreat
open Go Go.Rw Go.Proofs
-- a goal is never to be run by the elaborator
attribute [local irreducible] awp aops aop aopsE aeff

def aliveL : List PRec := [⟨4, zV, zC, zE, 5⟩, ⟨4, zV, zC, zE, 3⟩, ⟨3, ⟨15, 0⟩, zC, zE, 0⟩, ⟨3, ⟨7, 1⟩, zC, zE, 0⟩]
end Go.Proofs.YtjbbfiagijjdoaaGreat

/- Plain: the same log behind itself changes nothing; records of unlike kinds or views may turn. No condition. -/
set_option linter.unusedSimpArgs false
set_option linter.unusedVariables false
set_option maxRecDepth 10000
namespace Go.Proofs.YtjbbfiagijjdoaaGreat
open Go Go.Rw Go.Proofs

/-- the state has the record -/
def hasRec (s : PState) (r : PRec) : Prop :=
  (r.kind = 1 → ∃ b, lookK keyVB s.books (nameV r.view) = some ⟨r.view, b⟩ ∧ lessT (findE b r.entry.key).tag r.entry.tag = false) ∧
  (r.kind = 2 → ∃ c, lookK keyVC s.cells (nameV r.view) = some ⟨r.view, c⟩ ∧ (ofC c r.cell.node).isSome = true) ∧
  (r.kind = 3 → ¬ (withinV s.held r.view = true ∧ ¬ s.held = r.view)) ∧
  (r.kind = 4 → r.n ≤ s.last) ∧
  (r.kind = 5 → (intentS s r.view).isSome = true) ∧
  (r.kind = 6 → r.n ≤ s.inc)
/-! ### within -/
theorem setN_zero_b : ∀ a b c d e g : Bool, ((if a then (1 : Int) else 0) + (if b then 2 else 0) + (if c then 4 else 0) + (if d then 8 else 0) + (if e then 16 else 0) + (if g then 32 else 0) = 0 ↔ (a = false ∧ b = false ∧ c = false ∧ d = false ∧ e = false ∧ g = false)) := by decide
theorem setN_zero (f : Nat → Bool) : setN f = 0 ↔ ∀ k, k < 6 → f k = false := by
  unfold setN
  rw [setN_zero_b]
  constructor
  · rintro ⟨h0, h1, h2, h3, h4, h5⟩ k hk
    match k, hk with
    | 0, _ => exact h0
    | 1, _ => exact h1
    | 2, _ => exact h2
    | 3, _ => exact h3
    | 4, _ => exact h4
    | 5, _ => exact h5
    | k + 6, hk => omega
  · intro h
    exact ⟨h 0 (by omega), h 1 (by omega), h 2 (by omega), h 3 (by omega), h 4 (by omega), h 5 (by omega)⟩
theorem andN_zero (x y : Int) : andN x y = 0 ↔ ∀ k, k < 6 → bitV x k = true → bitV y k = true := by
  unfold andN
  rw [setN_zero]
  refine forall_congr' fun k => forall_congr' fun hk => ?_
  cases bitV x k <;> cases bitV y k <;> simp
theorem within_iff (a b : PView) : withinV a b = true ↔ (∀ k, k < 6 → bitV a.add k = true → bitV b.add k = true) ∧ ∀ k, k < 6 → bitV a.del k = true → bitV b.del k = true := by
  unfold withinV minusV
  rw [decide_eq_true_eq, PView.mk.injEq, andN_zero, andN_zero]
theorem within_trans {a b c : PView} (h1 : withinV a b = true) (h2 : withinV b c = true) : withinV a c = true := by
  rw [within_iff] at *
  exact ⟨fun k hk h => h2.1 k hk (h1.1 k hk h), fun k hk h => h2.2 k hk (h1.2 k hk h)⟩
/-! ### what was written is there -/
theorem held_grows {s : PState} (r : PRec) : withinV s.held (applyS s r).held = true := by
  rw [apply_held]
  split
  · rename_i h; exact h.2
  · exact withinV_self _
end Go.Proofs.YtjbbfiagijjdoaaGreat

/- The laws FoldNames and FoldTwice, walked. No condition. -/
set_option linter.unusedSimpArgs false
set_option linter.unusedVariables false
set_option maxRecDepth 10000
namespace Go.Proofs.YtjbbfiagijjdoaaGreat
open Go Go.Rw Go.Proofs
-- a goal is never to be run by the elaborator
attribute [local irreducible] awp aops aop aopsE aeff

def R12I (l : List PRec) (b1 : Nat) (v : PView) (t : Nat → AV) (h : Nat → Option (List AV)) : Prop := ∃ k : Nat, t 2 = .ptr b1 0 ∧ t 7 = .sl .no (eRs l) ∧ t 8 = eI l.length ∧ t 9 = eI k ∧ k ≤ l.length ∧ h b1 = some (eV v) ∧ ∀ r ∈ l.take k, rightR r = true
def R12M (l : List PRec) (b1 : Nat) (v : PView) (t : Nat → AV) (h : Nat → Option (List AV)) : Prop := t 2 = .ptr b1 0 ∧ h b1 = some (eV v) ∧ ∀ r ∈ l, rightR r = true
def TwI (l : List PRec) (s : PState) (b2 b3 : Nat) (t : Nat → AV) (h : Nat → Option (List AV)) : Prop := ∃ k : Nat, t 5 = .ptr b2 0 ∧ t 6 = .ptr b3 0 ∧ t 24 = .sl .no (eRs l) ∧ t 25 = eI l.length ∧ t 26 = eI k ∧ k ≤ l.length ∧ h b2 = some (eSt s) ∧ h b3 = some (eSt s)
def TwM (s : PState) (b2 b3 : Nat) (t : Nat → AV) (h : Nat → Option (List AV)) : Prop := t 5 = .ptr b2 0 ∧ t 6 = .ptr b3 0 ∧ h b2 = some (eSt s) ∧ h b3 = some (eSt s)
end Go.Proofs.YtjbbfiagijjdoaaGreat

/- Contracts: the document's: are two states the same? No condition. -/
set_option linter.unusedSimpArgs false
set_option linter.unusedVariables false
set_option maxRecDepth 10000
namespace Go.Proofs.YtjbbfiagijjdoaaGreat
open Go Go.Rw Go.Proofs
-- a goal is never to be run by the elaborator
attribute [local irreducible] awp aops aop aopsE aeff

/-- a state whose values are of 64 bits -/
def fitS (s : PState) : Prop := ∀ x ∈ s.books, ∀ e ∈ x.book, e.value < 18446744073709551616
def S12 (a b : PState) (b1 b2 : Nat) (t : Nat → AV) (h : Nat → Option (List AV)) : Prop := t 2 = .ptr b1 0 ∧ t 3 = .ptr b2 0 ∧ h b1 = some (eSt a) ∧ h b2 = some (eSt b)
def S12B (a b : PState) (b1 b2 : Nat) (t : Nat → AV) (h : Nat → Option (List AV)) : Prop := ∃ k : Nat, S12 a b b1 b2 t h ∧ t 56 = eI a.books.length ∧ t 57 = eI k ∧ k ≤ a.books.length ∧ sameVBs (a.books.drop k) (b.books.drop k) = sameVBs a.books b.books
def S12D (a b : PState) (b1 b2 : Nat) (t : Nat → AV) (h : Nat → Option (List AV)) : Prop := ∃ k : Nat, S12 a b b1 b2 t h ∧ t 92 = eI a.cells.length ∧ t 93 = eI k ∧ k ≤ a.cells.length ∧ sameVCs (a.cells.drop k) (b.cells.drop k) = sameVCs a.cells b.cells
def S12E (a b : PState) (b1 b2 : Nat) (t : Nat → AV) (h : Nat → Option (List AV)) : Prop := ∃ k : Nat, S12 a b b1 b2 t h ∧ t 128 = eI a.intents.length ∧ t 129 = eI k ∧ k ≤ a.intents.length ∧ a.intents.take k = b.intents.take k
def S12M (a b : PState) (b1 b2 : Nat) (P : Prop) (t : Nat → AV) (h : Nat → Option (List AV)) : Prop := S12 a b b1 b2 t h ∧ P
end Go.Proofs.YtjbbfiagijjdoaaGreat

/- The law FoldSteps, walked. No condition. -/
set_option linter.unusedSimpArgs false
set_option linter.unusedVariables false
set_option maxRecDepth 10000
namespace Go.Proofs.YtjbbfiagijjdoaaGreat
open Go Go.Rw Go.Proofs
-- a goal is never to be run by the elaborator
attribute [local irreducible] awp aops aop aopsE aeff

def SpI (n : Nat) (v : PView) (l : List PRec) (r : PRec) (s t1 : PState) (b1 b2 b3 b4 : Nat) (t : Nat → AV) (h : Nat → Option (List AV)) : Prop := ∃ (k : Nat) (tg : Tag), t 1 = .sl .no (eRs l) ∧ t 3 = .ptr b1 0 ∧ t 5 = .ptr b2 0 ∧ t 7 = .ptr b3 0 ∧ t 8 = .ptr b4 0 ∧ t 9 = .sl tg (eRs (l ++ [r])) ∧ t 58 = eI n ∧ t 59 = eI k ∧ k ≤ n ∧ h b1 = some (eV v) ∧ h b2 = some (eRc r) ∧ h b3 = some (eSt s) ∧ h b4 = some (eSt t1)
def SpM (v : PView) (l : List PRec) (r : PRec) (s t1 : PState) (b1 b2 b3 b4 : Nat) (t : Nat → AV) (h : Nat → Option (List AV)) : Prop := ∃ tg : Tag, t 1 = .sl .no (eRs l) ∧ t 3 = .ptr b1 0 ∧ t 5 = .ptr b2 0 ∧ t 7 = .ptr b3 0 ∧ t 8 = .ptr b4 0 ∧ t 9 = .sl tg (eRs (l ++ [r])) ∧ h b1 = some (eV v) ∧ h b2 = some (eRc r) ∧ h b3 = some (eSt s) ∧ h b4 = some (eSt t1)
end Go.Proofs.YtjbbfiagijjdoaaGreat

/- Contracts: who holds a view, are they enough, the same ints. No condition. -/
set_option linter.unusedSimpArgs false
set_option linter.unusedVariables false
set_option maxRecDepth 10000
namespace Go.Proofs.YtjbbfiagijjdoaaGreat
open Go Go.Rw Go.Proofs
-- a goal is never to be run by the elaborator
attribute [local irreducible] awp aops aop aopsE aeff

def holdsV (first v : PView) (l : List PRec) : Bool := withinV v (foldS first l).held
/-- who holds a view, among the first ones -/
def heldK (first v : PView) (ls : List (List PRec)) : Nat → List Int
  | 0 => []
  | k + 1 => heldK first v ls k ++ (match ls[k]? with | some l => if holdsV first v l = true then [(k : Int)] else [] | none => [])
def heldV (first v : PView) (ls : List (List PRec)) : List Int := heldK first v ls ls.length
theorem heldK_len (first v : PView) (ls : List (List PRec)) : ∀ k, (heldK first v ls k).length ≤ k
  | 0 => by simp [heldK]
  | k + 1 => by
    have := heldK_len first v ls k
    unfold heldK
    rw [List.length_append]
    split
    · split <;> simp <;> omega
    · simp; omega
/-- logs that can be -/
def logsOK (ls : List (List PRec)) : Prop := ∀ l ∈ ls, (∀ r ∈ l, rightR r = true) ∧ l.length ≤ 60
def SiI (a b : List Int) (t : Nat → AV) (_ : Nat → Option (List AV)) : Prop := ∃ k : Nat, t 0 = .sl .no (eZs a) ∧ t 1 = .sl .no (eZs b) ∧ t 12 = eI a.length ∧ t 13 = eI k ∧ k ≤ a.length ∧ a.take k = b.take k
theorem sameInts_spec (a b : List Int) : ASpec Tryz.prog 54 [.sl .no (eZs a), .sl .no (eZs b)] (· = .v (.bool (decide (a = b)))) := by
  refine ASpec.of_awp Tryz.func54 (by kernel_rfl) rfl (by rw [Tryz.results54]) Tryz.ntmps54 ?_
  simp -implicitDefEqProofs
  intro h1 h2
  by_cases hl : a.length = b.length
  · simp -implicitDefEqProofs [hl]
    intro _
    refine loopK.intro (SiI a b) (fun t => a.length - natOf (t 13)) ?_ ?_
    · exact ⟨0, by simp, by simp, by simp [hl], by simp, by omega, by simp⟩
    rintro t hh ⟨k, g0, g1, g12, g13, hk, he⟩
    by_cases hlt : k < a.length
    · have hlt' : (k : Int) < (a.length : Int) := by omega
      have hlt2 : k < b.length := by omega
      obtain ⟨x, hx⟩ : ∃ x, a[k]? = some x := ⟨a[k], by simp [hlt]⟩
      obtain ⟨y, hy⟩ : ∃ y, b[k]? = some y := ⟨b[k], by simp [hlt2]⟩
      have hw : IntKind.i64.wrap ((k : Int) + 1) = ((k + 1 : Nat) : Int) := by rw [w64 (by omega) (by omega)] <;> omega
      simp -implicitDefEqProofs [g12, g13, hlt']
      refine regionK.intro 9 follows_mixed (by kernel_rfl) ?_
      by_cases hxy : x = y
      · simp -implicitDefEqProofs [g0, g1, g13, hx, hy, hxy, hw]
        refine ⟨⟨k + 1, by simp [g0], by simp [g1], by simp [g12], by simp, by omega, ?_⟩, by omega⟩
        rw [List.take_add_one, List.take_add_one, he, hx, hy, hxy]
      · have hne : ¬ a = b := by rintro rfl; rw [hx] at hy; exact hxy (Option.some.inj hy)
        simp -implicitDefEqProofs [g0, g1, g13, hx, hy, hxy, hne]
    · have hlt' : ¬ (k : Int) < (a.length : Int) := by omega
      have hlt3 : ¬ k < b.length := by omega
      have hlt4 : ¬ (k : Int) < (b.length : Int) := by omega
      rw [List.take_of_length_le (by omega), List.take_of_length_le (by omega)] at he
      simp -implicitDefEqProofs [g12, g13, hl, hlt', hlt3, hlt4, he]
  · have hne : ¬ a = b := by rintro rfl; exact hl rfl
    have hl' : ¬ (a.length : Int) = b.length := by omega
    simp -implicitDefEqProofs [hl, hl', hne]

def HdAI (first v : PView) (ls : List (List PRec)) (b1 b2 : Nat) (t : Nat → AV) (h : Nat → Option (List AV)) : Prop := ∃ (k : Nat) (tag : Tag), t 3 = .ptr b1 0 ∧ t 4 = .ptr b2 0 ∧ t 7 = .sl tag (eZs (heldK first v ls k)) ∧ appOK tag 3 1 ∧ t 10 = .sl .no (eRss ls) ∧ t 11 = eI ls.length ∧ t 12 = eI k ∧ k ≤ ls.length ∧ h b1 = some (eV first) ∧ h b2 = some (eV v)
def HdAM (first v : PView) (ls : List (List PRec)) (t : Nat → AV) (h : Nat → Option (List AV)) : Prop := ∃ tag, t 7 = .sl tag (eZs (heldV first v ls))
theorem held22_spec (first v : PView) (ls : List (List PRec)) (h1 : rightV first = true) (h2 : rightV v = true) (hls : logsOK ls) (hn : ls.length ≤ 1000000) : ASpec Tryz.prog 55 [.agg (eV first), .agg (eV v), .sl .no (eRss ls)] (fun r => ∃ tag, r = .sl tag (eZs (heldV first v ls))) := by
  refine ASpec.of_awp Tryz.func55 (by kernel_rfl) rfl (by rw [Tryz.results55]) Tryz.ntmps55 ?_
  simp -implicitDefEqProofs [eV]
  refine allocK.intro (fun b1 hb1 => ?_)
  simp -implicitDefEqProofs
  refine allocK.intro (fun b2 hb2 => ?_)
  have n12 : ¬ b1 = b2 := by rintro rfl; simp at hb2
  have n21 : ¬ b2 = b1 := fun h => n12 h.symm
  simp -implicitDefEqProofs [n12, n21]
  intro _
  refine loopK.post (HdAI first v ls b1 b2) (fun t => ls.length - natOf (t 12)) (HdAM first v ls) ?_ ?_ ?_
  · exact ⟨0, _, by simp, by simp, by simp [heldK]; rfl, by simp, by simp, by simp, by simp, by omega, by simp [n12, n21, eV], by simp [eV]⟩
  · rintro t hh ⟨k, tag, g3, g4, g7, gt, gl, gn, gi, hk, c1, c2⟩
    by_cases hlt : k < ls.length
    · have hlt' : (k : Int) < (ls.length : Int) := by omega
      obtain ⟨l, hx⟩ : ∃ l, ls[k]? = some l := ⟨ls[k], by simp [hlt]⟩
      have hw : IntKind.i64.wrap ((k : Int) + 1) = ((k + 1 : Nat) : Int) := by rw [w64 (by omega) (by omega)] <;> omega
      obtain ⟨hl1, hl2⟩ := hls l (List.mem_of_getElem? hx)
      have hok := okT_fold h1 hl1 l.length (Nat.le_refl _)
      rw [List.take_length] at hok
      have hfo := fold_spec first l h1 hl1 (by omega)
      have hwi := within_spec v (foldS first l).held h2 hok.rh
      have hst : heldK first v ls (k + 1) = heldK first v ls k ++ (if withinV v (foldS first l).held = true then [(k : Int)] else []) := by
        show heldK first v ls k ++ _ = _
        rw [hx]; rfl
      have hhl := heldK_len first v ls k
      generalize heldK first v ls k = cur at *
      generalize foldS first l = s at *
      have c1' := c1
      have c2' := c2
      rw [eV] at c1' c2'
      simp -implicitDefEqProofs [gl, gn, gi, hlt', hx]
      refine regionK.intro 6 follows_mixed (by kernel_rfl) ?_
      simp -implicitDefEqProofs [g3, g4, c1', c2']
      refine CallQ.with hfo (by simp [eV]) ?_
      simp -implicitDefEqProofs [eSt]
      refine CallQ.with hwi (by simp [eV]) ?_
      cases hwv : withinV v s.held
      · simp -implicitDefEqProofs [gi, hw]
        exact ⟨⟨k + 1, tag, by simp [g3], by simp [g4], by rw [hst, hwv]; simp [g7], gt, by simp [gl], by simp [gn], by simp, by omega, c1, c2⟩, by omega⟩
      · simp -implicitDefEqProofs [g7, gt, gi, hw]
        refine ⟨by omega, ⟨k + 1, appTag tag 3 1 [[eI k]], by simp [g3], by simp [g4], by rw [hst, hwv]; simp [eZs], by simp [gt], by simp [gl], by simp [gn], by simp, by omega, c1, c2⟩, by omega⟩
    · have hlt' : ¬ (k : Int) < (ls.length : Int) := by omega
      obtain rfl : k = ls.length := by omega
      simp -implicitDefEqProofs [gn, gi, hlt']
      exact ⟨tag, by simp [g7, heldV]⟩
  rintro t hh ⟨tag, g7⟩
  simp -implicitDefEqProofs [g7]
theorem marked22_spec (first v : PView) (ls : List (List PRec)) (h1 : rightV first = true) (h2 : rightV v = true) (hls : logsOK ls) (hn : ls.length ≤ 1000000) : ASpec Tryz.prog 57 [.agg (eV first), .agg (eV v), .sl .no (eRss ls)] (· = .v (.bool (enoughV v (heldV first v ls)))) := by
  refine ASpec.of_awp Tryz.func57 (by kernel_rfl) rfl (by rw [Tryz.results57]) Tryz.ntmps57 ?_
  simp -implicitDefEqProofs [eV]
  refine allocK.intro (fun b1 hb1 => ?_)
  simp -implicitDefEqProofs
  refine allocK.intro (fun b2 hb2 => ?_)
  have n12 : ¬ b1 = b2 := by rintro rfl; simp at hb2
  have n21 : ¬ b2 = b1 := fun h => n12 h.symm
  simp -implicitDefEqProofs [n12, n21]
  refine regionK.intro 7 follows_mixed (by kernel_rfl) ?_
  simp -implicitDefEqProofs [n12, n21]
  refine CallQ.of (held22_spec first v ls h1 h2 hls hn) (x := .sl .no (eZs (heldV first v ls))) (by rintro _ ⟨tag, rfl⟩; simp) ?_
  simp -implicitDefEqProofs [n12, n21]
  refine CallQ.with (enough_spec v (heldV first v ls) h2) (by simp [eV]) ?_
  simp -implicitDefEqProofs [n12, n21]

def HdRI (first v : PView) (ls : List (List PRec)) (b1 b2 : Nat) (t : Nat → AV) (h : Nat → Option (List AV)) : Prop := ∃ (k : Nat) (tag : Tag), t 3 = .ptr b1 0 ∧ t 4 = .ptr b2 0 ∧ t 7 = .sl tag (eZs (heldK first v ls k)) ∧ appOK tag 3 1 ∧ t 11 = .sl .no (eRss ls) ∧ t 12 = eI ls.length ∧ t 13 = eI k ∧ k ≤ ls.length ∧ h b1 = some (eV first) ∧ h b2 = some (eV v)
def HdRM (first v : PView) (ls : List (List PRec)) (t : Nat → AV) (h : Nat → Option (List AV)) : Prop := ∃ tag, t 7 = .sl tag (eZs (heldV first v ls))
theorem held22r_spec (first v : PView) (ls : List (List PRec)) (h1 : rightV first = true) (h2 : rightV v = true) (hls : logsOK ls) (hn : ls.length ≤ 1000000) : ASpec Tryz.prog 56 [.agg (eV first), .agg (eV v), .sl .no (eRss ls)] (fun r => ∃ tag, r = .sl tag (eZs (heldV first v ls))) := by
  refine ASpec.of_awp Tryz.func56 (by kernel_rfl) rfl (by rw [Tryz.results56]) Tryz.ntmps56 ?_
  simp -implicitDefEqProofs [eV]
  refine allocK.intro (fun b1 hb1 => ?_)
  simp -implicitDefEqProofs
  refine allocK.intro (fun b2 hb2 => ?_)
  have n12 : ¬ b1 = b2 := by rintro rfl; simp at hb2
  have n21 : ¬ b2 = b1 := fun h => n12 h.symm
  simp -implicitDefEqProofs [n12, n21]
  intro _
  refine loopK.post (HdRI first v ls b1 b2) (fun t => ls.length - natOf (t 13)) (HdRM first v ls) ?_ ?_ ?_
  · exact ⟨0, _, by simp, by simp, by simp [heldK]; rfl, by simp, by simp, by simp, by simp, by omega, by simp [n12, n21, eV], by simp [eV]⟩
  · rintro t hh ⟨k, tag, g3, g4, g7, gt, gl, gn, gi, hk, c1, c2⟩
    by_cases hlt : k < ls.length
    · have hlt' : (k : Int) < (ls.length : Int) := by omega
      obtain ⟨l, hx⟩ : ∃ l, ls[k]? = some l := ⟨ls[k], by simp [hlt]⟩
      have hw : IntKind.i64.wrap ((k : Int) + 1) = ((k + 1 : Nat) : Int) := by rw [w64 (by omega) (by omega)] <;> omega
      obtain ⟨hl1, hl2⟩ := hls l (List.mem_of_getElem? hx)
      have hok := okT_fold h1 hl1 l.length (Nat.le_refl _)
      rw [List.take_length] at hok
      have hfo := of12_spec first l h1 hl1 (by omega)
      rw [state_eq h1 hl1] at hfo
      have hwi := within4_spec v (foldS first l).held h2 hok.rh
      have hst : heldK first v ls (k + 1) = heldK first v ls k ++ (if withinV v (foldS first l).held = true then [(k : Int)] else []) := by
        show heldK first v ls k ++ _ = _
        rw [hx]; rfl
      have hhl := heldK_len first v ls k
      generalize heldK first v ls k = cur at *
      generalize foldS first l = s at *
      have c1' := c1
      have c2' := c2
      rw [eV] at c1' c2'
      simp -implicitDefEqProofs [gl, gn, gi, hlt', hx]
      refine regionK.intro 6 follows_mixed (by kernel_rfl) ?_
      simp -implicitDefEqProofs [g3, g4, c1', c2']
      refine CallQ.with hfo (by simp [eV]) ?_
      simp -implicitDefEqProofs [eSt]
      refine CallQ.with hwi (by simp [eV]) ?_
      cases hwv : withinV v s.held
      · simp -implicitDefEqProofs [gi, hw]
        exact ⟨⟨k + 1, tag, by simp [g3], by simp [g4], by rw [hst, hwv]; simp [g7], gt, by simp [gl], by simp [gn], by simp, by omega, c1, c2⟩, by omega⟩
      · simp -implicitDefEqProofs [g7, gt, gi, hw]
        refine ⟨by omega, ⟨k + 1, appTag tag 3 1 [[eI k]], by simp [g3], by simp [g4], by rw [hst, hwv]; simp [eZs], by simp [gt], by simp [gl], by simp [gn], by simp, by omega, c1, c2⟩, by omega⟩
    · have hlt' : ¬ (k : Int) < (ls.length : Int) := by omega
      obtain rfl : k = ls.length := by omega
      simp -implicitDefEqProofs [gn, gi, hlt']
      exact ⟨tag, by simp [g7, heldV]⟩
  rintro t hh ⟨tag, g7⟩
  simp -implicitDefEqProofs [g7]
theorem marked22r_spec (first v : PView) (ls : List (List PRec)) (h1 : rightV first = true) (h2 : rightV v = true) (hls : logsOK ls) (hn : ls.length ≤ 1000000) : ASpec Tryz.prog 58 [.agg (eV first), .agg (eV v), .sl .no (eRss ls)] (· = .v (.bool (enoughV v (heldV first v ls)))) := by
  refine ASpec.of_awp Tryz.func58 (by kernel_rfl) rfl (by rw [Tryz.results58]) Tryz.ntmps58 ?_
  simp -implicitDefEqProofs [eV]
  refine allocK.intro (fun b1 hb1 => ?_)
  simp -implicitDefEqProofs
  refine allocK.intro (fun b2 hb2 => ?_)
  have n12 : ¬ b1 = b2 := by rintro rfl; simp at hb2
  have n21 : ¬ b2 = b1 := fun h => n12 h.symm
  simp -implicitDefEqProofs [n12, n21]
  refine regionK.intro 7 follows_mixed (by kernel_rfl) ?_
  simp -implicitDefEqProofs [n12, n21]
  refine CallQ.of (held22r_spec first v ls h1 h2 hls hn) (x := .sl .no (eZs (heldV first v ls))) (by rintro _ ⟨tag, rfl⟩; simp) ?_
  simp -implicitDefEqProofs [n12, n21]
  refine CallQ.with (enough5_spec v (heldV first v ls) h2) (by simp [eV]) ?_
  simp -implicitDefEqProofs [n12, n21]
end Go.Proofs.YtjbbfiagijjdoaaGreat

/- Contracts: what is alive of audit. No condition. -/
set_option linter.unusedSimpArgs false
set_option linter.unusedVariables false
set_option maxRecDepth 10000
namespace Go.Proofs.YtjbbfiagijjdoaaGreat
open Go Go.Rw Go.Proofs
-- a goal is never to be run by the elaborator
attribute [local irreducible] awp aops aop aopsE aeff

def cellR (add : Int) : PRec := ⟨2, v7, ⟨1, ⟨add, 0⟩⟩, zE, 0⟩
def markR : PRec := ⟨3, ⟨15, 0⟩, zC, zE, 0⟩
theorem cell22_spec (add : Int) : ASpec Tryz.prog 109 [eI add] (· = .agg (eRc (cellR add))) := by
  refine ASpec.of_awp Tryz.func109 (by kernel_rfl) rfl (by rw [Tryz.results109]) Tryz.ntmps109 ?_
  simp -implicitDefEqProofs
  refine allocK.intro (fun b1 hb1 => ?_)
  simp -implicitDefEqProofs [eRc, cellR, v7, zE]
theorem alive_c1 : clashR [cellR 8, cellR 16] = true := by decide +kernel
theorem alive_c2 : clashR [cellR 8, cellR 8] = false := by decide +kernel
theorem alive_m1 : enoughV ⟨15, 0⟩ (heldV v7 ⟨15, 0⟩ [[markR], [], [markR], [markR]]) = true := by decide +kernel
theorem alive_m2 : enoughV ⟨15, 0⟩ (heldV v7 ⟨15, 0⟩ [[markR], [], [], [markR]]) = false := by decide +kernel
theorem alive_right15 : rightV ⟨15, 0⟩ = true := by decide
theorem mark_right : rightR markR = true := by decide
theorem logs_marks (l : List PRec) (hl : l ∈ [[markR], [], [markR], [markR]] ∨ l ∈ [[markR], [], [], [markR]]) : (∀ r ∈ l, rightR r = true) ∧ l.length ≤ 60 := by
  have : l = [] ∨ l = [markR] := by
    by_cases h1 : l = []
    · exact .inl h1
    · by_cases h2 : l = [markR]
      · exact .inr h2
      · exfalso; rcases hl with h | h <;> simp [h1, h2] at h
  rcases this with rfl | rfl <;> simp [mark_right]
theorem alive22_spec : ASpec Tryz.prog 48 [] (· = .v (.bool true)) := by
  refine ASpec.of_awp Tryz.func48 (by kernel_rfl) rfl (by rw [Tryz.results48]) Tryz.ntmps48 ?_
  have hc1 := clash22_spec [[cellR 8], [cellR 16]] (by simp)
  have hc2 := clash22_spec [[cellR 8], [cellR 8]] (by simp)
  have hm1 := marked22_spec v7 ⟨15, 0⟩ [[markR], [], [markR], [markR]] rightV_v7 alive_right15 (fun l hl => logs_marks l (.inl hl)) (by simp)
  have hm2 := marked22_spec v7 ⟨15, 0⟩ [[markR], [], [], [markR]] rightV_v7 alive_right15 (fun l hl => logs_marks l (.inr hl)) (by simp)
  rw [alive_m1] at hm1
  rw [alive_m2] at hm2
  have e1 : [[cellR 8], [cellR 16]].flatten = [cellR 8, cellR 16] := rfl
  have e2 : [[cellR 8], [cellR 8]].flatten = [cellR 8, cellR 8] := rfl
  rw [e1, alive_c1] at hc1
  rw [e2, alive_c2] at hc2
  simp -implicitDefEqProofs
  refine bsK.std ?_
  simp -implicitDefEqProofs
  refine allocK.intro (fun b1 hb1 => ?_)
  simp -implicitDefEqProofs
  refine CallK.eq (cell22_spec 8) ?_
  simp -implicitDefEqProofs [eRc, cellR, v7, zE]
  refine CallK.eq (cell22_spec 16) ?_
  simp -implicitDefEqProofs [eRc, cellR, v7, zE]
  refine CallK.with hc1 (by simp [eRss, eRs, eRc, cellR, v7, zE]) ?_
  simp -implicitDefEqProofs [eRc, cellR, v7, zE]
  refine CallK.eq (cell22_spec 8) ?_
  simp -implicitDefEqProofs [eRc, cellR, v7, zE]
  refine CallK.eq (cell22_spec 8) ?_
  simp -implicitDefEqProofs [eRc, cellR, v7, zE]
  refine CallK.with hc2 (by simp [eRss, eRs, eRc, cellR, v7, zE]) ?_
  simp -implicitDefEqProofs [eRc, cellR, v7, zE]
  refine CallK.with hm1 (by simp [eRss, eRs, eRc, eV, v7, markR, zC, zE]) ?_
  simp -implicitDefEqProofs [eRc, cellR, v7, zE]
  refine CallK.with hm2 (by simp [eRss, eRs, eRc, eV, v7, markR, zC, zE]) ?_
  simp -implicitDefEqProofs [eRc, cellR, v7, zE]
end Go.Proofs.YtjbbfiagijjdoaaGreat

/- The law AuditTells. No condition. -/
set_option linter.unusedSimpArgs false
set_option linter.unusedVariables false
set_option maxRecDepth 10000
namespace Go.Proofs.YtjbbfiagijjdoaaGreat
open Go Go.Rw Go.Proofs
-- a goal is never to be run by the elaborator
attribute [local irreducible] awp aops aop aopsE aeff

/-- a log that is looked at -/
def logOK (l : List PRec) : Prop := (∀ r ∈ l, rightR r = true) ∧ l.length ≤ 30
theorem logs_of {ls : List (List PRec)} (h : ∀ l ∈ ls, logOK l) : logsOK ls := fun l hl => ⟨(h l hl).1, Nat.le_trans (h l hl).2 (by omega)⟩
theorem flats_len : ∀ {ls : List (List PRec)}, (∀ l ∈ ls, logOK l) → ls.flatten.length ≤ 30 * ls.length
  | [], _ => by simp
  | l :: ls, h => by
    have h1 := flats_len (ls := ls) (fun x hx => h x (by simp [hx]))
    have h2 := (h l (by simp)).2
    rw [List.flatten_cons, List.length_append, List.length_cons]
    omega
def GdI (ls : List (List PRec)) (b1 b2 : Nat) (first v : PView) (t : Nat → AV) (h : Nat → Option (List AV)) : Prop := ∃ k : Nat, t 2 = .sl .no (eRss ls) ∧ t 3 = .ptr b1 0 ∧ t 4 = .ptr b2 0 ∧ t 26 = .sl .no (eRss ls) ∧ t 27 = eI ls.length ∧ t 28 = eI k ∧ k ≤ ls.length ∧ h b1 = some (eV first) ∧ h b2 = some (eV v) ∧ ∀ l ∈ ls.take k, logOK l
def GdM (ls : List (List PRec)) (b1 b2 : Nat) (first v : PView) (t : Nat → AV) (h : Nat → Option (List AV)) : Prop := t 2 = .sl .no (eRss ls) ∧ t 3 = .ptr b1 0 ∧ t 4 = .ptr b2 0 ∧ h b1 = some (eV first) ∧ h b2 = some (eV v) ∧ ∀ l ∈ ls, logOK l
def GdJ (ls : List (List PRec)) (b1 b2 : Nat) (first v : PView) (k : Nat) (l : List PRec) (t : Nat → AV) (h : Nat → Option (List AV)) : Prop := ∃ j : Nat, t 2 = .sl .no (eRss ls) ∧ t 3 = .ptr b1 0 ∧ t 4 = .ptr b2 0 ∧ t 26 = .sl .no (eRss ls) ∧ t 27 = eI ls.length ∧ t 28 = eI k ∧ h b1 = some (eV first) ∧ h b2 = some (eV v) ∧ t 35 = .sl .no (eRs l) ∧ t 36 = eI l.length ∧ t 37 = eI j ∧ j ≤ l.length ∧ ∀ r ∈ l.take j, rightR r = true
theorem tells22_law (first v : PView) (ls : List (List PRec)) (hf : ∀ l ∈ ls, ∀ r ∈ l, fitR r) : ASpec Tryz.prog 8 [.agg (eV first), .agg (eV v), .sl .no (eRss ls)] (· = .v (.bool true)) := by
  refine ASpec.of_awp Tryz.func8 (by kernel_rfl) rfl (by rw [Tryz.results8]) Tryz.ntmps8 ?_
  simp -implicitDefEqProofs [eV]
  refine allocK.intro (fun b1 hb1 => ?_)
  simp -implicitDefEqProofs
  refine allocK.intro (fun b2 hb2 => ?_)
  have n12 : ¬ b1 = b2 := by rintro rfl; simp at hb2
  have n21 : ¬ b2 = b1 := fun h => n12 h.symm
  simp -implicitDefEqProofs [n12, n21]
  refine CallK.eq alive22_spec ?_
  simp -implicitDefEqProofs [n12, n21]
  intro _
  by_cases h6 : 6 < ls.length
  · have h6' : (6 : Int) < (ls.length : Int) := by omega
    simp -implicitDefEqProofs [n12, n21, h6, h6']
  have h6' : ¬ (6 : Int) < (ls.length : Int) := by omega
  simp -implicitDefEqProofs [n12, n21, h6, h6']
  refine CallK.with (right4_spec first) (by simp [eV]) ?_
  cases h1 : rightV first
  · simp -implicitDefEqProofs
  simp -implicitDefEqProofs [n12, n21]
  refine CallK.with (right4_spec v) (by simp [eV]) ?_
  cases h2 : rightV v
  · simp -implicitDefEqProofs
  simp -implicitDefEqProofs [n12, n21]
  intro _
  refine loopK.post (GdI ls b1 b2 first v) (fun t => ls.length - natOf (t 28)) (GdM ls b1 b2 first v) ?_ ?_ ?_
  · exact ⟨0, by simp, by simp, by simp, by simp, by simp, by simp, by omega, by simp [n12, n21, eV], by simp [n12, n21, eV], by simp⟩
  · clear hb1 hb2
    rintro t hh ⟨k, g2, g3, g4, g26, g27, g28, hk, c1, c2, hok⟩
    by_cases hlt : k < ls.length
    · have hlt' : (k : Int) < (ls.length : Int) := by omega
      obtain ⟨l, hx⟩ : ∃ l, ls[k]? = some l := ⟨ls[k], by simp [hlt]⟩
      have hlm := List.mem_of_getElem? hx
      have hw : IntKind.i64.wrap ((k : Int) + 1) = ((k + 1 : Nat) : Int) := by rw [w64 (by omega) (by omega)] <;> omega
      have htk : ls.take (k + 1) = ls.take k ++ [l] := by rw [List.take_add_one, hx]; rfl
      have hm28 : natOf (t 28) = k := by rw [g28]; simp
      rw [hm28]
      by_cases h30 : 30 < l.length
      · have h30' : (30 : Int) < (l.length : Int) := by omega
        simp -implicitDefEqProofs [g26, g27, g28, hlt', hx, h30, h30']
        done
      have h30' : ¬ (30 : Int) < (l.length : Int) := by omega
      simp -implicitDefEqProofs [g26, g27, g28, hlt', hx, h30, h30']
      intro _
      refine loopK.intro (GdJ ls b1 b2 first v k l) (fun t => l.length - natOf (t 37)) ?_ ?_
      · exact ⟨0, by simp [g2], by simp [g3], by simp [g4], by simp [g26], by simp [g27], by simp [g28], c1, c2, by simp, by simp, by simp, by omega, by simp⟩
      clear g2 g3 g4 g26 g27 g28 c1 c2 hm28
      rintro t hh ⟨j, g2, g3, g4, g26, g27, g28, c1, c2, g35, g36, g37, hj, hjr⟩
      by_cases hjl : j < l.length
      · have hjl' : (j : Int) < (l.length : Int) := by omega
        have hwj : IntKind.i64.wrap ((j : Int) + 1) = ((j + 1 : Nat) : Int) := by rw [w64 (by omega) (by omega)] <;> omega
        obtain ⟨r, hy⟩ : ∃ r, l[j]? = some r := ⟨l[j], by simp [hjl]⟩
        have hrf := hf l hlm r (List.mem_of_getElem? hy)
        simp -implicitDefEqProofs [g35, g36, g37, hjl', hy, eRc]
        refine allocK.intro (fun b3 hb3 => ?_)
        have n13 : ¬ b1 = b3 := by rintro rfl; rw [c1] at hb3; simp at hb3
        have n23 : ¬ b2 = b3 := by rintro rfl; rw [c2] at hb3; simp at hb3
        simp -implicitDefEqProofs
        refine CallK.with (right9r_spec r hrf) (by simp [eRc]) ?_
        cases hrr : rightR r
        · simp -implicitDefEqProofs
        simp -implicitDefEqProofs [g37, hwj]
        refine ⟨⟨j + 1, by simp [g2], by simp [g3], by simp [g4], by simp [g26], by simp [g27], by simp [g28], by simp [n13, c1], by simp [n23, c2], by simp [g35], by simp [g36], by simp, by omega, fun x hx2 => ?_⟩, by omega⟩
        rw [List.take_add_one, hy] at hx2
        rcases List.mem_append.1 hx2 with h | h
        · exact hjr x h
        · simp at h; rw [h]; exact hrr
      · have hjl' : ¬ (j : Int) < (l.length : Int) := by omega
        rw [List.take_of_length_le (by omega)] at hjr
        simp -implicitDefEqProofs [g36, g37, hjl', g28, hw]
        refine ⟨⟨k + 1, by simp [g2], by simp [g3], by simp [g4], by simp [g26], by simp [g27], by simp, by omega, c1, c2, fun x hx2 => ?_⟩, by omega⟩
        rw [htk] at hx2
        rcases List.mem_append.1 hx2 with h | h
        · exact hok x h
        · simp at h; rw [h]; exact ⟨hjr, by omega⟩
    · have hlt' : ¬ (k : Int) < (ls.length : Int) := by omega
      rw [List.take_of_length_le (by omega)] at hok
      simp -implicitDefEqProofs [g27, g28, hlt']
      exact ⟨by simp [g2], by simp [g3], by simp [g4], c1, c2, hok⟩
  clear hb1 hb2
  rintro t hh ⟨g2, g3, g4, c1, c2, hok⟩
  have hfl := flats_len hok
  have hlo := logs_of hok
  have hff : ∀ r ∈ ls.flatten, fitR r := fun r hr => by
    obtain ⟨l, h3, h4⟩ := List.mem_flatten.1 hr
    exact hf l h3 r h4
  have hA := clash22_spec ls (by omega)
  have hB := clash22r_spec ls (by omega)
  have hC := tags22_spec ls (by omega)
  have hD := tags22r_spec ls (by omega) hff
  have hE := held22_spec first v ls h1 h2 hlo (by omega)
  have hG := held22r_spec first v ls h1 h2 hlo (by omega)
  have hH := sameInts_spec (heldV first v ls) (heldV first v ls)
  have hM := marked22_spec first v ls h1 h2 hlo (by omega)
  have hN := marked22r_spec first v ls h1 h2 hlo (by omega)
  rw [eV] at c1 c2
  generalize clashR ls.flatten = cl at *
  generalize tagsR ls.flatten = tg at *
  generalize heldV first v ls = hv at *
  generalize enoughV v hv = en at *
  simp -implicitDefEqProofs
  refine regionK.intro 35 follows_mixed (by kernel_rfl) ?_
  simp -implicitDefEqProofs [g2, g3, g4, c1, c2]
  refine CallQ.with hA (by simp) ?_
  simp -implicitDefEqProofs [g2, g3, g4, c1, c2]
  refine CallQ.with hB (by simp) ?_
  simp -implicitDefEqProofs [g2, g3, g4, c1, c2]
  refine CallQ.with hC (by simp) ?_
  simp -implicitDefEqProofs [g2, g3, g4, c1, c2]
  refine CallQ.with hD (by simp) ?_
  simp -implicitDefEqProofs [g2, g3, g4, c1, c2]
  refine CallQ.of hE (x := .sl .no (eZs hv)) (by rintro _ ⟨tag, rfl⟩; simp) ?_
  simp -implicitDefEqProofs [g2, g3, g4, c1, c2]
  refine CallQ.of hG (x := .sl .no (eZs hv)) (by rintro _ ⟨tag, rfl⟩; simp) ?_
  simp -implicitDefEqProofs [g2, g3, g4, c1, c2]
  refine CallQ.with hH (by simp) ?_
  simp -implicitDefEqProofs [g2, g3, g4, c1, c2]
  refine CallQ.with hM (by simp [eV]) ?_
  simp -implicitDefEqProofs [g2, g3, g4, c1, c2]
  refine CallQ.with hN (by simp [eV]) ?_
  simp -implicitDefEqProofs [g2, g3, g4, c1, c2]
end Go.Proofs.YtjbbfiagijjdoaaGreat

/- Contracts: a list in memory of one's own is sorted (ropeway/api.View). Printed by sort/gen.py. No condition. -/
set_option linter.unusedSimpArgs false
set_option linter.unusedVariables false
set_option maxRecDepth 10000
namespace Go.Proofs.YtjbbfiagijjdoaaGreat
open Go Go.Rw Go.Proofs
-- a goal is never to be run by the elaborator
attribute [local irreducible] awp aops aop aopsE aeff

instance : Inhabited PView := ⟨⟨0, 0⟩⟩
/-- a list in memory, and what lies behind it -/
def memV (d : Array PView) (sp : List AV) : List AV := (d.toList.map eV).flatten ++ sp
def ltV (cm : PView → PView → Int) (x y : PView) : Bool := decide (cm x y < 0)
def InsIV (cm : PView → PView → Int) (Q : PView → Prop) (n cap a b b1 : Nat) (sp : List AV) (g : FuncId) (D : Array PView) (t : Nat → AV) (h : Nat → Option (List AV)) : Prop := ∃ (i : Nat) (d : Array PView), t 0 = .sm b1 0 n cap ∧ t 1 = eI a ∧ t 2 = eI b ∧ t 3 = .fn g [] ∧ t 8 = eI i ∧ h b1 = some (memV d sp) ∧ d.size = n ∧ a + 1 ≤ i ∧ i ≤ max b (a + 1) ∧ Go.Sort.insOuter (ltV cm) a b i d = D ∧ ∀ k < d.size, Q d[k]!
def InsJV (cm : PView → PView → Int) (Q : PView → Prop) (n cap a b b1 : Nat) (sp : List AV) (g : FuncId) (i : Nat) (D : Array PView) (t : Nat → AV) (h : Nat → Option (List AV)) : Prop := ∃ (j : Nat) (d : Array PView), t 0 = .sm b1 0 n cap ∧ t 1 = eI a ∧ t 2 = eI b ∧ t 3 = .fn g [] ∧ t 8 = eI i ∧ t 9 = eI j ∧ h b1 = some (memV d sp) ∧ d.size = n ∧ a ≤ j ∧ j ≤ i ∧ Go.Sort.insInner (ltV cm) a j d = D ∧ ∀ k < d.size, Q d[k]!
end Go.Proofs.YtjbbfiagijjdoaaGreat

/- Contracts: swaps, reversing and heaps of views in memory of one's own. No condition. Printed by sort/v1.py. -/
set_option linter.unusedSimpArgs false
set_option linter.unusedVariables false
set_option maxRecDepth 10000
namespace Go.Proofs.YtjbbfiagijjdoaaGreat
open Go Go.Rw Go.Proofs
-- a goal is never to be run by the elaborator
attribute [local irreducible] awp aops aop aopsE aeff

def RevV (Q : PView → Prop) (n cap b1 : Nat) (sp : List AV) (D : Array PView) (t : Nat → AV) (h : Nat → Option (List AV)) : Prop := ∃ (i j : Nat) (d : Array PView), t 0 = .sm b1 0 n cap ∧ t 8 = eI i ∧ t 9 = eI j ∧ h b1 = some (memV d sp) ∧ d.size = n ∧ i ≤ n ∧ j < n ∧ Go.Sort.reverseLoop i j d = D ∧ ∀ k < d.size, Q d[k]!
def SiftI (cm : PView → PView → Int) (Q : PView → Prop) (n cap hi first b1 : Nat) (sp : List AV) (g : FuncId) (D : Array PView) (t : Nat → AV) (h : Nat → Option (List AV)) : Prop := ∃ (root : Nat) (d : Array PView), t 0 = .sm b1 0 n cap ∧ t 2 = eI hi ∧ t 3 = eI first ∧ t 4 = .fn g [] ∧ t 10 = eI root ∧ h b1 = some (memV d sp) ∧ d.size = n ∧ root ≤ n ∧ Go.Sort.siftDown (ltV cm) hi first root d = D ∧ ∀ k < d.size, Q d[k]!
end Go.Proofs.YtjbbfiagijjdoaaGreat

/- Contracts: random words, patterns broken. No condition. Printed by sort/v2.py. -/
set_option linter.unusedSimpArgs false
set_option linter.unusedVariables false
set_option maxRecDepth 10000
namespace Go.Proofs.YtjbbfiagijjdoaaGreat
open Go Go.Rw Go.Proofs
-- a goal is never to be run by the elaborator
attribute [local irreducible] awp aops aop aopsE aeff

/-- the number of a word of 64 bits -/
def n64 (x : BitVec 64) : Int := (x.toNat : Int)
/-- a random word as a value -/
def eR64 (r : UInt64) : AV := .v (.int .u64 (n64 r.toBitVec))
def brk (a length modulus : Nat) : Nat → Nat → UInt64 × Array PView → Array PView
  | 0, _, st => st.2
  | n + 1, idx, st => brk a length modulus n (idx + 1) (Go.Sort.breakStep a length modulus st idx)
def BrkI (Q : PView → Prop) (n cap a b len w m b1 b2 : Nat) (sp : List AV) (D : Array PView) (t : Nat → AV) (h : Nat → Option (List AV)) : Prop := ∃ (k q : Nat) (r : UInt64) (d : Array PView), q = a + w * 2 - 1 + k ∧ t 0 = .sm b1 0 n cap ∧ t 1 = eI a ∧ t 8 = eI len ∧ t 9 = .ptr b2 0 ∧ t 10 = .v (.int .u64 (m : Int)) ∧ t 11 = eI q ∧ h b1 = some (memV d sp) ∧ h b2 = some [eR64 r] ∧ d.size = n ∧ k ≤ 3 ∧ brk a len m (3 - k) q (r, d) = D ∧ ∀ k < d.size, Q d[k]!
end Go.Proofs.YtjbbfiagijjdoaaGreat

/- Contracts: the middle of some, the pivot. No condition. Printed by sort/v2.py. -/
set_option linter.unusedSimpArgs false
set_option linter.unusedVariables false
set_option maxRecDepth 10000
namespace Go.Proofs.YtjbbfiagijjdoaaGreat
open Go Go.Rw Go.Proofs
-- a goal is never to be run by the elaborator
attribute [local irreducible] awp aops aop aopsE aeff

def hintN : Go.Sort.Hint → Nat
  | .unknown => 0
  | .increasing => 1
  | .decreasing => 2
def ChM (cm : PView → PView → Int) (n cap a b b1 b2 : Nat) (g : FuncId) (d : Array PView) (sp : List AV) (D : Nat × Nat) (t : Nat → AV) (h : Nat → Option (List AV)) : Prop := ∃ i j k s : Nat, t 0 = .sm b1 0 n cap ∧ t 3 = .fn g [] ∧ t 11 = .ptr b2 0 ∧ t 12 = eI i ∧ t 13 = eI j ∧ t 14 = eI k ∧ h b1 = some (memV d sp) ∧ h b2 = some [eI s] ∧ i < n ∧ j < n ∧ k < n ∧ s ≤ 9 ∧ Go.Sort.median (ltV cm) d i j k s = D
end Go.Proofs.YtjbbfiagijjdoaaGreat

/- Contracts: parting views in memory of one's own. No condition. Printed by sort/v4.py. -/
set_option linter.unusedSimpArgs false
set_option linter.unusedVariables false
set_option maxRecDepth 10000
namespace Go.Proofs.YtjbbfiagijjdoaaGreat
open Go Go.Rw Go.Proofs
-- a goal is never to be run by the elaborator
attribute [local irreducible] awp aops aop aopsE aeff

def ScnU (n cap a b1 ti tj : Nat) (sp : List AV) (g : FuncId) (d : Array PView) (P : PView → Bool) (j I : Nat) (t : Nat → AV) (h : Nat → Option (List AV)) : Prop := ∃ i : Nat, t 0 = .sm b1 0 n cap ∧ t 1 = eI a ∧ t 4 = .fn g [] ∧ t ti = eI i ∧ t tj = eI j ∧ h b1 = some (memV d sp) ∧ a < i ∧ i ≤ n ∧ Go.Sort.scanUp P d j i = I
def ScnD (n cap a b1 ti tj : Nat) (sp : List AV) (g : FuncId) (d : Array PView) (P : PView → Bool) (i J : Nat) (t : Nat → AV) (h : Nat → Option (List AV)) : Prop := ∃ j : Nat, t 0 = .sm b1 0 n cap ∧ t 1 = eI a ∧ t 4 = .fn g [] ∧ t ti = eI i ∧ t tj = eI j ∧ h b1 = some (memV d sp) ∧ j < n ∧ Go.Sort.scanDown P d i j = J
def ScnM (n cap a b1 ti tj : Nat) (sp : List AV) (g : FuncId) (d : Array PView) (i j : Nat) (t : Nat → AV) (h : Nat → Option (List AV)) : Prop := t 0 = .sm b1 0 n cap ∧ t 1 = eI a ∧ t 4 = .fn g [] ∧ t ti = eI i ∧ t tj = eI j ∧ h b1 = some (memV d sp)
def PtEqI (cm : PView → PView → Int) (Q : PView → Prop) (n cap a b1 : Nat) (sp : List AV) (g : FuncId) (D : Nat × Array PView) (t : Nat → AV) (h : Nat → Option (List AV)) : Prop := ∃ (i j : Nat) (d : Array PView), t 0 = .sm b1 0 n cap ∧ t 1 = eI a ∧ t 4 = .fn g [] ∧ t 11 = eI i ∧ t 12 = eI j ∧ h b1 = some (memV d sp) ∧ d.size = n ∧ a < i ∧ i ≤ n ∧ j < n ∧ Go.Sort.partEqLoop (ltV cm) a i j d = D ∧ ∀ k < d.size, Q d[k]!
def PtEqM (Q : PView → Prop) (n cap a b1 : Nat) (sp : List AV) (D : Nat × Array PView) (t : Nat → AV) (h : Nat → Option (List AV)) : Prop := t 0 = .sm b1 0 n cap ∧ t 1 = eI a ∧ t 11 = eI D.1 ∧ h b1 = some (memV D.2 sp) ∧ D.2.size = n ∧ ∀ k < D.2.size, Q D.2[k]!
def PtI (cm : PView → PView → Int) (Q : PView → Prop) (n cap a b1 : Nat) (sp : List AV) (g : FuncId) (D : Nat × Array PView) (t : Nat → AV) (h : Nat → Option (List AV)) : Prop := ∃ (i j : Nat) (d : Array PView), t 0 = .sm b1 0 n cap ∧ t 1 = eI a ∧ t 4 = .fn g [] ∧ t 12 = eI i ∧ t 13 = eI j ∧ h b1 = some (memV d sp) ∧ d.size = n ∧ a < i ∧ i ≤ n ∧ j < n ∧ Go.Sort.partLoop (ltV cm) a i j d = D ∧ ∀ k < d.size, Q d[k]!
def PtM (Q : PView → Prop) (n cap a b1 : Nat) (sp : List AV) (D : Nat × Array PView) (t : Nat → AV) (h : Nat → Option (List AV)) : Prop := t 0 = .sm b1 0 n cap ∧ t 1 = eI a ∧ t 13 = eI D.1 ∧ h b1 = some (memV D.2 sp) ∧ D.2.size = n ∧ D.1 < n ∧ ∀ k < D.2.size, Q D.2[k]!
end Go.Proofs.YtjbbfiagijjdoaaGreat

/- Contracts: heaps and nearly sorted views in memory of one's own. No condition. Printed by sort/v5.py. -/
set_option linter.unusedSimpArgs false
set_option linter.unusedVariables false
set_option maxRecDepth 10000
namespace Go.Proofs.YtjbbfiagijjdoaaGreat
open Go Go.Rw Go.Proofs
-- a goal is never to be run by the elaborator
attribute [local irreducible] awp aops aop aopsE aeff

def upN (x : AV) : Nat := match x with | .v (.int _ n) => (n + 1).toNat | _ => 0
@[simp] theorem upN_int (k : IntKind) (n : Int) : upN (.v (.int k n)) = (n + 1).toNat := rfl
def HpI (cm : PView → PView → Int) (Q : PView → Prop) (n cap a hi b1 : Nat) (sp : List AV) (g : FuncId) (D : Array PView) (t : Nat → AV) (h : Nat → Option (List AV)) : Prop := ∃ (k : Nat) (d : Array PView), t 0 = .sm b1 0 n cap ∧ t 3 = .fn g [] ∧ t 8 = eI a ∧ t 9 = eI 0 ∧ t 10 = eI hi ∧ t 11 = eI ((k : Int) - 1) ∧ h b1 = some (memV d sp) ∧ d.size = n ∧ k ≤ hi ∧ Go.Sort.heapBuild (ltV cm) hi a k d = D ∧ ∀ k < d.size, Q d[k]!
def HpM (Q : PView → Prop) (n cap a hi b1 : Nat) (sp : List AV) (g : FuncId) (d : Array PView) (t : Nat → AV) (h : Nat → Option (List AV)) : Prop := t 0 = .sm b1 0 n cap ∧ t 3 = .fn g [] ∧ t 8 = eI a ∧ t 9 = eI 0 ∧ t 10 = eI hi ∧ h b1 = some (memV d sp) ∧ d.size = n ∧ ∀ k < d.size, Q d[k]!
def HpJ (cm : PView → PView → Int) (Q : PView → Prop) (n cap a hi b1 : Nat) (sp : List AV) (g : FuncId) (D : Array PView) (t : Nat → AV) (h : Nat → Option (List AV)) : Prop := ∃ (k : Nat) (d : Array PView), t 0 = .sm b1 0 n cap ∧ t 3 = .fn g [] ∧ t 8 = eI a ∧ t 9 = eI 0 ∧ t 12 = eI ((k : Int) - 1) ∧ h b1 = some (memV d sp) ∧ d.size = n ∧ k ≤ hi ∧ Go.Sort.heapPop (ltV cm) a k d = D ∧ ∀ k < d.size, Q d[k]!
def SsI (cm : PView → PView → Int) (n cap a b q b1 : Nat) (sp : List AV) (g : FuncId) (d : Array PView) (I : Nat) (t : Nat → AV) (h : Nat → Option (List AV)) : Prop := ∃ i : Nat, t 0 = .sm b1 0 n cap ∧ t 1 = eI a ∧ t 2 = eI b ∧ t 3 = .fn g [] ∧ t 9 = eI i ∧ t 10 = eI q ∧ h b1 = some (memV d sp) ∧ a + 1 ≤ i ∧ i ≤ b ∧ Go.Sort.scanSorted (ltV cm) d b i = I
def SsM (n cap a b q b1 : Nat) (sp : List AV) (g : FuncId) (d : Array PView) (I : Nat) (t : Nat → AV) (h : Nat → Option (List AV)) : Prop := t 0 = .sm b1 0 n cap ∧ t 1 = eI a ∧ t 2 = eI b ∧ t 3 = .fn g [] ∧ t 9 = eI I ∧ t 10 = eI q ∧ h b1 = some (memV d sp)
def ShD (cm : PView → PView → Int) (Q : PView → Prop) (n cap a b I b1 : Nat) (sp : List AV) (g : FuncId) (q : Nat) (D : Array PView) (t : Nat → AV) (h : Nat → Option (List AV)) : Prop := ∃ (j : Nat) (d : Array PView), t 0 = .sm b1 0 n cap ∧ t 1 = eI a ∧ t 2 = eI b ∧ t 3 = .fn g [] ∧ t 9 = eI I ∧ t 10 = eI q ∧ t 11 = eI j ∧ h b1 = some (memV d sp) ∧ d.size = n ∧ j < n ∧ 0 ≤ j ∧ Go.Sort.shiftDown (ltV cm) j d = D ∧ ∀ k < d.size, Q d[k]!
def ShU (cm : PView → PView → Int) (Q : PView → Prop) (n cap a b I b1 : Nat) (sp : List AV) (g : FuncId) (q : Nat) (D : Array PView) (t : Nat → AV) (h : Nat → Option (List AV)) : Prop := ∃ (j : Nat) (d : Array PView), t 0 = .sm b1 0 n cap ∧ t 1 = eI a ∧ t 2 = eI b ∧ t 3 = .fn g [] ∧ t 9 = eI I ∧ t 10 = eI q ∧ t 12 = eI j ∧ h b1 = some (memV d sp) ∧ d.size = n ∧ j ≤ n ∧ 1 ≤ j ∧ Go.Sort.shiftUp (ltV cm) b j d = D ∧ ∀ k < d.size, Q d[k]!
def ShM (Q : PView → Prop) (n cap a b I b1 : Nat) (sp : List AV) (g : FuncId) (q : Nat) (D : Array PView) (t : Nat → AV) (h : Nat → Option (List AV)) : Prop := ∃ d : Array PView, t 0 = .sm b1 0 n cap ∧ t 1 = eI a ∧ t 2 = eI b ∧ t 3 = .fn g [] ∧ t 9 = eI I ∧ t 10 = eI q ∧ h b1 = some (memV d sp) ∧ d.size = n ∧ d = D ∧ ∀ k < d.size, Q d[k]!
def PaI (cm : PView → PView → Int) (Q : PView → Prop) (n cap a b b1 : Nat) (sp : List AV) (g : FuncId) (D : Array PView × Bool) (t : Nat → AV) (h : Nat → Option (List AV)) : Prop := ∃ (s q i : Nat) (d : Array PView), t 0 = .sm b1 0 n cap ∧ t 1 = eI a ∧ t 2 = eI b ∧ t 3 = .fn g [] ∧ t 9 = eI i ∧ t 10 = eI q ∧ h b1 = some (memV d sp) ∧ d.size = n ∧ a + 1 ≤ i ∧ i ≤ b ∧ q + s = 5 ∧ Go.Sort.partialIns (ltV cm) a b s i d = D ∧ ∀ k < d.size, Q d[k]!
end Go.Proofs.YtjbbfiagijjdoaaGreat

/- Contracts: views in memory of one's own are sorted. No condition. Printed by sort/v6.py. -/
set_option linter.unusedSimpArgs false
set_option linter.unusedVariables false
set_option maxRecDepth 10000
namespace Go.Proofs.YtjbbfiagijjdoaaGreat
open Go Go.Rw Go.Proofs
-- a goal is never to be run by the elaborator
attribute [local irreducible] awp aops aop aopsE aeff

/-- whatever sorts this part sorts the whole -/
def Back (cm : PView → PView → Int) (a0 b0 : Nat) (d0 : Array PView) (a b : Nat) (d : Array PView) : Prop := ∀ R, Go.Sort.PermIn a b d R → Go.Sort.SortedIn (ltV cm) a b R → Go.Sort.PermIn a0 b0 d0 R ∧ Go.Sort.SortedIn (ltV cm) a0 b0 R
/-- an array whose part [a, b) is to be sorted -/
structure Ok (cm : PView → PView → Int) (Q : PView → Prop) (n a0 b0 : Nat) (d0 : Array PView) (a b : Nat) (d : Array PView) : Prop where
  size : d.size = n
  ab : a ≤ b
  bn : b ≤ n
  small : b - a ≤ b0 - a0
  below : Go.Sort.Below (ltV cm) a b d
  all : ∀ k < d.size, Q d[k]!
  back : Back cm a0 b0 d0 a b d
def PdI (cm : PView → PView → Int) (Q : PView → Prop) (n cap a0 b0 b1 : Nat) (sp : List AV) (g : FuncId) (d0 : Array PView) (t : Nat → AV) (h : Nat → Option (List AV)) : Prop := ∃ (a b lim : Nat) (wb wp : Bool) (d : Array PView), t 0 = .sm b1 0 n cap ∧ t 1 = eI a ∧ t 2 = eI b ∧ t 3 = eI lim ∧ t 4 = .fn g [] ∧ t 10 = .v (.bool wb) ∧ t 11 = .v (.bool wp) ∧ h b1 = some (memV d sp) ∧ lim ≤ 1000 ∧ Ok cm Q n a0 b0 d0 a b d
def PdA (cm : PView → PView → Int) (Q : PView → Prop) (n cap a0 b0 b1 : Nat) (sp : List AV) (g : FuncId) (d0 : Array PView) (a b : Nat) (wb wp : Bool) (t : Nat → AV) (h : Nat → Option (List AV)) : Prop := ∃ (lim : Nat) (d : Array PView), t 0 = .sm b1 0 n cap ∧ t 1 = eI a ∧ t 2 = eI b ∧ t 3 = eI lim ∧ t 4 = .fn g [] ∧ t 10 = .v (.bool wb) ∧ t 11 = .v (.bool wp) ∧ t 12 = eI (b - a : Nat) ∧ h b1 = some (memV d sp) ∧ lim ≤ 1000 ∧ Ok cm Q n a0 b0 d0 a b d
def PdB (cm : PView → PView → Int) (Q : PView → Prop) (n cap a0 b0 b1 : Nat) (sp : List AV) (g : FuncId) (d0 : Array PView) (a b lim : Nat) (wb wp : Bool) (t : Nat → AV) (h : Nat → Option (List AV)) : Prop := ∃ (p hint : Nat) (d : Array PView), t 0 = .sm b1 0 n cap ∧ t 1 = eI a ∧ t 2 = eI b ∧ t 3 = eI lim ∧ t 4 = .fn g [] ∧ t 10 = .v (.bool wb) ∧ t 11 = .v (.bool wp) ∧ t 12 = eI (b - a : Nat) ∧ h b1 = some (memV d sp) ∧ t 13 = eI p ∧ t 14 = eI hint ∧ a ≤ p ∧ p < b ∧ Ok cm Q n a0 b0 d0 a b d
def PdC (cm : PView → PView → Int) (Q : PView → Prop) (n cap a0 b0 b1 : Nat) (sp : List AV) (g : FuncId) (d0 : Array PView) (a b lim p : Nat) (wb wp : Bool) (t : Nat → AV) (h : Nat → Option (List AV)) : Prop := ∃ d : Array PView, t 0 = .sm b1 0 n cap ∧ t 1 = eI a ∧ t 2 = eI b ∧ t 3 = eI lim ∧ t 4 = .fn g [] ∧ t 10 = .v (.bool wb) ∧ t 11 = .v (.bool wp) ∧ t 12 = eI (b - a : Nat) ∧ h b1 = some (memV d sp) ∧ t 13 = eI p ∧ Ok cm Q n a0 b0 d0 a b d
end Go.Proofs.YtjbbfiagijjdoaaGreat

/- Contracts: what is alike is put together (views in memory of one's own). No condition. -/
set_option linter.unusedSimpArgs false
set_option linter.unusedVariables false
set_option maxRecDepth 10000
namespace Go.Proofs.YtjbbfiagijjdoaaGreat
open Go Go.Rw Go.Proofs
-- a goal is never to be run by the elaborator
attribute [local irreducible] awp aops aop aopsE aeff

def cmV (a b : PView) : Int := if lessV a b = true then -1 else if a = b then 0 else 1
/-- what is alike and side by side is put together -/
def dedF (acc : List PView) (y : PView) : List PView := if acc.getLast? = some y then acc else acc ++ [y]
def dedA (l : List PView) : List PView := l.foldl dedF []
def CmI (d : Array PView) (cap b1 : Nat) (sp : List AV) (t : Nat → AV) (h : Nat → Option (List AV)) : Prop := ∃ k : Nat, t 0 = .sm b1 0 d.size cap ∧ t 3 = eI k ∧ h b1 = some (memV d sp) ∧ 1 ≤ k ∧ k ≤ d.size ∧ dedA (d.toList.take k) = d.toList.take k
def CmM (d : Array PView) (cap b1 : Nat) (sp : List AV) (t : Nat → AV) (h : Nat → Option (List AV)) : Prop := t 0 = .sm b1 0 d.size cap ∧ h b1 = some (memV d sp) ∧ dedA d.toList = d.toList
def CmJ (d : Array PView) (cap b1 k0 : Nat) (sp : List AV) (t : Nat → AV) (h : Nat → Option (List AV)) : Prop := ∃ (k k2 : Nat) (D : Array PView), t 0 = .sm b1 0 d.size cap ∧ t 3 = eI k ∧ t 4 = .sm b1 (k0 * 2) (d.size - k0) (cap - k0) ∧ t 5 = eI k2 ∧ h b1 = some (memV D sp) ∧ D.size = d.size ∧ 1 ≤ k ∧ 1 ≤ k2 ∧ k2 ≤ d.size - k0 ∧ k + 1 ≤ k0 + k2 ∧
  D.toList.take k = dedA (d.toList.take (k0 + k2)) ∧ ∀ i, k ≤ i → D[i]! = d[i]!
def CmN (d : Array PView) (cap b1 : Nat) (sp : List AV) (t : Nat → AV) (h : Nat → Option (List AV)) : Prop := ∃ (k : Nat) (D : Array PView), t 0 = .sm b1 0 d.size cap ∧ t 3 = eI k ∧ h b1 = some (memV D sp) ∧ D.size = d.size ∧ 1 ≤ k ∧ k < d.size ∧ D.toList.take k = dedA d.toList
end Go.Proofs.YtjbbfiagijjdoaaGreat

/- Contracts: the views of which something is known. No condition. Printed by sort/v8.py. -/
set_option linter.unusedSimpArgs false
set_option linter.unusedVariables false
set_option maxRecDepth 10000
namespace Go.Proofs.YtjbbfiagijjdoaaGreat
open Go Go.Rw Go.Proofs
-- a goal is never to be run by the elaborator
attribute [local irreducible] awp aops aop aopsE aeff

def allV (s : PState) : List PView := [s.held] ++ s.books.map (·.view) ++ s.cells.map (·.view) ++ s.intents.map (·.view)
def SnI (s : PState) (b1 ts tl ti : Nat) (rows : List (List AV)) (vs pre : List PView) (t : Nat → AV) (h : Nat → Option (List AV)) : Prop := ∃ (k b c : Nat) (sp : List AV), t 1 = .ptr b1 0 ∧ h b1 = some (eSt s) ∧ t ts = .sl .no rows ∧ t tl = eI vs.length ∧ t ti = eI k ∧ k ≤ vs.length ∧ t 3 = .sm b 0 (pre.length + k) c ∧ h b = some ((eVs (pre ++ vs.take k)).flatten ++ sp) ∧ (pre.length + k) * 2 + sp.length = c * 2
def SnM (s : PState) (b1 : Nat) (pre : List PView) (t : Nat → AV) (h : Nat → Option (List AV)) : Prop := ∃ (b c : Nat) (sp : List AV), t 1 = .ptr b1 0 ∧ h b1 = some (eSt s) ∧ t 3 = .sm b 0 pre.length c ∧ h b = some ((eVs pre).flatten ++ sp) ∧ pre.length * 2 + sp.length = c * 2
/-- strictly sorted, and just these -/
def SeenOf (s : PState) (out : List PView) : Prop := out.Pairwise (fun a b => lessV a b = true) ∧ ∀ x, x ∈ out ↔ x ∈ allV s
end Go.Proofs.YtjbbfiagijjdoaaGreat

/- Plain: the views seen, and where they come from. No condition. -/
set_option linter.unusedSimpArgs false
set_option linter.unusedVariables false
set_option maxRecDepth 10000
namespace Go.Proofs.YtjbbfiagijjdoaaGreat
open Go Go.Rw Go.Proofs

/-- the views of which something is known, in their order -/
def seenV (s : PState) : List PView := dedA (Go.Sort.sort (ltV cmV) (allV s).toArray).toList
/-- a view of which records or the beginning speak -/
def knownR (x : PView) (r : PRec) : Bool := decide (r.view = x) && !decide (r.kind = 4) && !decide (r.kind = 6)
def knownV (v : PView) (l : List PRec) (x : PView) : Bool := decide (x = v) || l.any (knownR x)
end Go.Proofs.YtjbbfiagijjdoaaGreat

/- Contracts: books within one another, cells that clash; plain: nothing is less behind more records. No condition. -/
set_option linter.unusedSimpArgs false
set_option linter.unusedVariables false
set_option maxRecDepth 10000
namespace Go.Proofs.YtjbbfiagijjdoaaGreat
open Go Go.Rw Go.Proofs
-- a goal is never to be run by the elaborator
attribute [local irreducible] awp aops aop aopsE aeff

/-- nothing is less behind more records -/
theorem fold_more (v : PView) (l : List PRec) (k : Nat) : foldS v l = (l.drop k).foldl applyS (foldS v (l.take k)) := by
  unfold foldS
  rw [← List.foldl_append, List.take_append_drop]
theorem more_held : ∀ {l : List PRec} {s : PState}, withinV s.held (l.foldl applyS s).held = true
  | [], s => withinV_self _
  | r :: l, s => within_trans (held_grows r) (more_held (l := l))
end Go.Proofs.YtjbbfiagijjdoaaGreat

/- The law AuditGrows. No condition. -/
set_option linter.unusedSimpArgs false
set_option linter.unusedVariables false
set_option maxRecDepth 10000
namespace Go.Proofs.YtjbbfiagijjdoaaGreat
open Go Go.Rw Go.Proofs
-- a goal is never to be run by the elaborator
attribute [local irreducible] awp aops aop aopsE aeff

/-- the first half of a log -/
def halfL (l : List PRec) : List PRec := l.take (l.length / 2)
theorem eRss_one1 (l : List (List PRec)) : ∀ r ∈ eRss l, r.length = 1 := by simp [eRss]
theorem half_sub {ls : List (List PRec)} {r : PRec} (h : r ∈ (ls.map halfL).flatten) : r ∈ ls.flatten := by
  obtain ⟨l, h1, h2⟩ := List.mem_flatten.1 h
  obtain ⟨l2, h3, rfl⟩ := List.mem_map.1 h1
  exact List.mem_flatten.2 ⟨l2, h3, List.mem_of_mem_take h2⟩
theorem any_two_mono {α : Type} {p : α → α → Bool} {a b : List α} (h : ∀ x ∈ a, x ∈ b) (ha : (a.any fun x => a.any (p x)) = true) : (b.any fun x => b.any (p x)) = true := by
  obtain ⟨x, h1, h2⟩ := List.any_eq_true.1 ha
  obtain ⟨y, h3, h4⟩ := List.any_eq_true.1 h2
  exact List.any_eq_true.2 ⟨x, h x h1, List.any_eq_true.2 ⟨y, h y h3, h4⟩⟩
theorem heldK_mem {first v : PView} {ls : List (List PRec)} : ∀ {k : Nat} {i : Int}, i ∈ heldK first v ls k ↔ ∃ n l, n < k ∧ i = (n : Int) ∧ ls[n]? = some l ∧ holdsV first v l = true
  | 0, i => by simp [heldK]
  | k + 1, i => by
    unfold heldK
    rw [List.mem_append, heldK_mem]
    constructor
    · rintro (⟨n, l, h1, h2, h3, h4⟩ | h)
      · exact ⟨n, l, by omega, h2, h3, h4⟩
      · cases hx : ls[k]? with
        | none => rw [hx] at h; simp at h
        | some l =>
          rw [hx] at h
          simp only at h
          split at h
          · rename_i h2; simp at h; exact ⟨k, l, by omega, h, hx, h2⟩
          · simp at h
    · rintro ⟨n, l, h1, h2, h3, h4⟩
      by_cases hn : n = k
      · subst hn
        right
        rw [h3]
        simp [h4, h2]
      · exact .inl ⟨n, l, by omega, h2, h3, h4⟩
theorem holds_half {first v : PView} {l : List PRec} (h : holdsV first v (halfL l) = true) : holdsV first v l = true := by
  unfold holdsV halfL at *
  rw [fold_more first l (l.length / 2)]
  exact within_trans h more_held
theorem held_half {first v : PView} {ls : List (List PRec)} {i : Int} (h : i ∈ heldV first v (ls.map halfL)) : i ∈ heldV first v ls := by
  unfold heldV at *
  obtain ⟨n, l, h1, h2, h3, h4⟩ := heldK_mem.1 h
  rw [List.length_map] at h1
  rw [List.getElem?_map] at h3
  cases hx : ls[n]? with
  | none => rw [hx] at h3; simp at h3
  | some l2 =>
    rw [hx] at h3
    simp at h3
    rw [← h3] at h4
    exact heldK_mem.2 ⟨n, l2, h1, h2, hx, holds_half h4⟩
theorem filter_mono_len {α : Type} {p q : α → Bool} (h : ∀ x, p x = true → q x = true) : ∀ l : List α, (l.filter p).length ≤ (l.filter q).length
  | [] => by simp
  | x :: l => by
    have ih := filter_mono_len h l
    rw [List.filter_cons, List.filter_cons]
    cases hp : p x <;> cases hq : q x
    · simpa using ih
    · simp; omega
    · rw [h x hp] at hq; cases hq
    · simpa using ih
theorem enough_mono {v : PView} {a b : List Int} (h : ∀ x ∈ a, x ∈ b) (ha : enoughV v a = true) : enoughV v b = true := by
  unfold enoughV at *
  rw [decide_eq_true_eq] at *
  have : manyV v a ≤ manyV v b := filter_mono_len (fun x hx => by simp at hx ⊢; exact h x hx) _
  omega
theorem logOK_half {ls : List (List PRec)} (h : ∀ l ∈ ls, logOK l) : ∀ l ∈ ls.map halfL, logOK l := fun l hl => by
  obtain ⟨l2, h1, rfl⟩ := List.mem_map.1 hl
  obtain ⟨h2, h3⟩ := h l2 h1
  refine ⟨fun r hr => h2 r (List.mem_of_mem_take hr), ?_⟩
  unfold halfL
  rw [List.length_take]; omega
def GhI (ls : List (List PRec)) (b1 b2 : Nat) (first v : PView) (t : Nat → AV) (h : Nat → Option (List AV)) : Prop := ∃ k : Nat, t 2 = .sl .no (eRss ls) ∧ t 3 = .ptr b1 0 ∧ t 4 = .ptr b2 0 ∧ t 30 = .sl .no (eRss ls) ∧ t 31 = eI ls.length ∧ t 32 = eI k ∧ k ≤ ls.length ∧ h b1 = some (eV first) ∧ h b2 = some (eV v) ∧ (∀ l ∈ ls.take k, logOK l) ∧ (∃ tag, t 7 = .sl tag (eRss ((ls.take k).map halfL)) ∧ appOK tag 22 1)
def GhM (ls : List (List PRec)) (b1 b2 : Nat) (first v : PView) (t : Nat → AV) (h : Nat → Option (List AV)) : Prop := t 2 = .sl .no (eRss ls) ∧ t 3 = .ptr b1 0 ∧ t 4 = .ptr b2 0 ∧ h b1 = some (eV first) ∧ h b2 = some (eV v) ∧ (∀ l ∈ ls, logOK l) ∧ ∃ tag, t 7 = .sl tag (eRss (ls.map halfL))
def GhJ (ls : List (List PRec)) (b1 b2 : Nat) (first v : PView) (k : Nat) (l : List PRec) (t : Nat → AV) (h : Nat → Option (List AV)) : Prop := ∃ j : Nat, t 2 = .sl .no (eRss ls) ∧ t 3 = .ptr b1 0 ∧ t 4 = .ptr b2 0 ∧ t 30 = .sl .no (eRss ls) ∧ t 31 = eI ls.length ∧ t 32 = eI k ∧ h b1 = some (eV first) ∧ h b2 = some (eV v) ∧ t 39 = .sl .no (eRs l) ∧ t 40 = eI l.length ∧ t 41 = eI j ∧ j ≤ l.length ∧ (∀ r ∈ l.take j, rightR r = true) ∧ t 9 = .sl .no (eRs l) ∧ (∃ tag, t 7 = .sl tag (eRss ((ls.take k).map halfL)) ∧ appOK tag 22 1)
def GhN (ls : List (List PRec)) (b1 b2 : Nat) (first v : PView) (k : Nat) (l : List PRec) (t : Nat → AV) (h : Nat → Option (List AV)) : Prop := t 2 = .sl .no (eRss ls) ∧ t 3 = .ptr b1 0 ∧ t 4 = .ptr b2 0 ∧ t 30 = .sl .no (eRss ls) ∧ t 31 = eI ls.length ∧ t 32 = eI k ∧ h b1 = some (eV first) ∧ h b2 = some (eV v) ∧ t 9 = .sl .no (eRs l) ∧ (∃ tag, t 7 = .sl tag (eRss ((ls.take k).map halfL)) ∧ appOK tag 22 1) ∧ ∀ r ∈ l, rightR r = true
def GiI (ls : List (List PRec)) (b1 b2 : Nat) (first v : PView) (out : List Int) (t : Nat → AV) (h : Nat → Option (List AV)) : Prop := ∃ k : Nat, t 2 = .sl .no (eRss ls) ∧ t 3 = .ptr b1 0 ∧ t 4 = .ptr b2 0 ∧ h b1 = some (eV first) ∧ h b2 = some (eV v) ∧ (∃ tag, t 90 = .sl tag (eZs out)) ∧ t 91 = eI out.length ∧ t 92 = eI k ∧ k ≤ out.length
theorem grows22_law (first v : PView) (ls : List (List PRec)) (hf : ∀ l ∈ ls, ∀ r ∈ l, fitR r) : ASpec Tryz.prog 9 [.agg (eV first), .agg (eV v), .sl .no (eRss ls)] (· = .v (.bool true)) := by
  refine ASpec.of_awp Tryz.func9 (by kernel_rfl) rfl (by rw [Tryz.results9]) Tryz.ntmps9 ?_
  simp -implicitDefEqProofs [eV]
  refine allocK.intro (fun b1 hb1 => ?_)
  simp -implicitDefEqProofs
  refine allocK.intro (fun b2 hb2 => ?_)
  have n12 : ¬ b1 = b2 := by rintro rfl; simp at hb2
  have n21 : ¬ b2 = b1 := fun h => n12 h.symm
  simp -implicitDefEqProofs [n12, n21]
  refine CallK.eq alive22_spec ?_
  simp -implicitDefEqProofs [n12, n21]
  intro _
  by_cases h6 : 6 < ls.length
  · have h6' : (6 : Int) < (ls.length : Int) := by omega
    simp -implicitDefEqProofs [n12, n21, h6, h6']
  have h6' : ¬ (6 : Int) < (ls.length : Int) := by omega
  simp -implicitDefEqProofs [n12, n21, h6, h6']
  refine CallK.with (right4_spec first) (by simp [eV]) ?_
  cases h1 : rightV first
  · simp -implicitDefEqProofs
  simp -implicitDefEqProofs [n12, n21]
  refine CallK.with (right4_spec v) (by simp [eV]) ?_
  cases h2 : rightV v
  · simp -implicitDefEqProofs
  simp -implicitDefEqProofs [n12, n21]
  intro _
  refine loopK.post (GhI ls b1 b2 first v) (fun t => ls.length - natOf (t 32)) (GhM ls b1 b2 first v) ?_ ?_ ?_
  · exact ⟨0, by simp, by simp, by simp, by simp, by simp, by simp, by omega, by simp [n12, n21, eV], by simp [n12, n21, eV], by simp, ⟨_, by simp [eRss]; rfl, by simp⟩⟩
  · clear hb1 hb2
    rintro t hh ⟨k, g2, g3, g4, g30, g31, g32, hk, c1, c2, hok, ⟨tag, g7, gt⟩⟩
    by_cases hlt : k < ls.length
    · have hlt' : (k : Int) < (ls.length : Int) := by omega
      obtain ⟨l, hx⟩ : ∃ l, ls[k]? = some l := ⟨ls[k], by simp [hlt]⟩
      have hlm := List.mem_of_getElem? hx
      have hw : IntKind.i64.wrap ((k : Int) + 1) = ((k + 1 : Nat) : Int) := by rw [w64 (by omega) (by omega)] <;> omega
      have htk : ls.take (k + 1) = ls.take k ++ [l] := by rw [List.take_add_one, hx]; rfl
      have hm32 : natOf (t 32) = k := by rw [g32]; simp
      rw [hm32]
      by_cases h30 : 30 < l.length
      · have h30' : (30 : Int) < (l.length : Int) := by omega
        simp -implicitDefEqProofs [g30, g31, g32, hlt', hx, h30, h30']
        done
      have h30' : ¬ (30 : Int) < (l.length : Int) := by omega
      simp -implicitDefEqProofs [g30, g31, g32, hlt', hx, h30, h30']
      intro _
      refine loopK.post (GhJ ls b1 b2 first v k l) (fun t => l.length - natOf (t 41)) (GhN ls b1 b2 first v k l) ?_ ?_ ?_
      · exact ⟨0, by simp [g2], by simp [g3], by simp [g4], by simp [g30], by simp [g31], by simp [g32], c1, c2, by simp, by simp, by simp, by omega, by simp, by simp, ⟨tag, by simp [g7], gt⟩⟩
      · clear g2 g3 g4 g30 g31 g32 c1 c2 hm32 g7 gt tag
        rintro t hh ⟨j, g2, g3, g4, g30, g31, g32, c1, c2, g39, g40, g41, hj, hjr, g9, ⟨tag, g7, gt⟩⟩
        by_cases hjl : j < l.length
        · have hjl' : (j : Int) < (l.length : Int) := by omega
          have hwj : IntKind.i64.wrap ((j : Int) + 1) = ((j + 1 : Nat) : Int) := by rw [w64 (by omega) (by omega)] <;> omega
          obtain ⟨r, hy⟩ : ∃ r, l[j]? = some r := ⟨l[j], by simp [hjl]⟩
          have hrf := hf l hlm r (List.mem_of_getElem? hy)
          simp -implicitDefEqProofs [g39, g40, g41, hjl', hy, eRc]
          refine allocK.intro (fun b3 hb3 => ?_)
          have n13 : ¬ b1 = b3 := by rintro rfl; rw [c1] at hb3; simp at hb3
          have n23 : ¬ b2 = b3 := by rintro rfl; rw [c2] at hb3; simp at hb3
          simp -implicitDefEqProofs
          refine CallK.with (right9r_spec r hrf) (by simp [eRc]) ?_
          cases hrr : rightR r
          · simp -implicitDefEqProofs
          simp -implicitDefEqProofs [g41, hwj]
          refine ⟨⟨j + 1, by simp [g2], by simp [g3], by simp [g4], by simp [g30], by simp [g31], by simp [g32], by simp [n13, c1], by simp [n23, c2], by simp [g39], by simp [g40], by simp, by omega, fun x hx2 => ?_, by simp [g9], ⟨tag, by simp [g7], gt⟩⟩, by omega⟩
          rw [List.take_add_one, hy] at hx2
          rcases List.mem_append.1 hx2 with h | h
          · exact hjr x h
          · simp at h; rw [h]; exact hrr
        · have hjl' : ¬ (j : Int) < (l.length : Int) := by omega
          rw [List.take_of_length_le (by omega)] at hjr
          simp -implicitDefEqProofs [g40, g41, hjl']
          exact ⟨by simp [g2], by simp [g3], by simp [g4], by simp [g30], by simp [g31], by simp [g32], c1, c2, by simp [g9], ⟨tag, by simp [g7], gt⟩, hjr⟩
      clear g2 g3 g4 g30 g31 g32 c1 c2 hm32 g7 gt tag
      rintro t hh ⟨g2, g3, g4, g30, g31, g32, c1, c2, g9, ⟨tag, g7, gt⟩, hjr⟩
      obtain ⟨q, hq⟩ : ∃ q, q = l.length / 2 := ⟨_, rfl⟩
      have hq1 : (l.length : Int).tdiv 2 = (q : Int) := by rw [Int.tdiv_eq_ediv_of_nonneg (by omega), hq]; omega
      have hq2 : (l.length : Int) / 2 = (q : Int) := by rw [hq]; omega
      have hq3 : (q : Int) ≤ (l.length : Int) := by omega
      have hq4 : q ≤ l.length := by omega
      have hq5 : (0 : Int) ≤ (q : Int) := by omega
      have hmt : (ls.take (k + 1)).map halfL = (ls.take k).map halfL ++ [l.take q] := by rw [htk, List.map_append, hq]; rfl
      have hwq : IntKind.i64.wrap (q : Int) = (q : Int) := w64 (by omega) (by omega)
      simp -implicitDefEqProofs [g9, g7, gt, hq1, hq2, hq3, hq4, hq5, hwq, g32, hw]
      intro _
      have hml : ((ls.take k).map halfL).length ≤ 6 := by simp; omega
      refine ⟨⟨eRss_one1 _, by simp at hml; omega⟩, ⟨k + 1, by simp [g2], by simp [g3], by simp [g4], by simp [g30], by simp [g31], by simp, by omega, c1, c2, fun x hx2 => ?_, appTag tag 22 1 [[.sl .no (eRs (l.take q))]], ?_, by simp [gt]⟩, by omega⟩
      · rw [htk] at hx2
        rcases List.mem_append.1 hx2 with h | h
        · exact hok x h
        · simp at h; rw [h]; exact ⟨hjr, by omega⟩
      · rw [hmt]; simp [eRss, eRs]
    · have hlt' : ¬ (k : Int) < (ls.length : Int) := by omega
      rw [List.take_of_length_le (by omega)] at hok g7
      simp -implicitDefEqProofs [g31, g32, hlt']
      exact ⟨by simp [g2], by simp [g3], by simp [g4], c1, c2, hok, tag, by simp [g7]⟩
  clear hb1 hb2
  rintro t hh ⟨g2, g3, g4, c1, c2, hok, tag, g7⟩
  have hoh := logOK_half hok
  have hfl := flats_len hok
  have hfh := flats_len hoh
  rw [List.length_map] at hfh
  have hlo := logs_of hok
  have hlh := logs_of hoh
  have hA := clash22_spec (ls.map halfL) (by omega)
  have hB := clash22_spec ls (by omega)
  have hC := tags22_spec (ls.map halfL) (by omega)
  have hD := tags22_spec ls (by omega)
  have hE := held22_spec first v (ls.map halfL) h1 h2 hlh (by simp; omega)
  have hM := marked22_spec first v (ls.map halfL) h1 h2 hlh (by simp; omega)
  have hN := marked22_spec first v ls h1 h2 hlo (by omega)
  have m1 : clashR (ls.map halfL).flatten = true → clashR ls.flatten = true := any_two_mono fun x hx => half_sub hx
  have m2 : tagsR (ls.map halfL).flatten = true → tagsR ls.flatten = true := any_two_mono fun x hx => half_sub hx
  have m3 : enoughV v (heldV first v (ls.map halfL)) = true → enoughV v (heldV first v ls) = true := enough_mono fun x hx => held_half hx
  have hmem : ∀ i ∈ heldV first v (ls.map halfL), ∃ n l, n < ls.length ∧ i = (n : Int) ∧ ls[n]? = some l ∧ holdsV first v l = true := fun i hi => heldK_mem.1 (held_half hi)
  have hol : (heldV first v (ls.map halfL)).length ≤ 6 := by
    have := heldK_len first v (ls.map halfL) (ls.map halfL).length
    unfold heldV
    rw [List.length_map] at this
    rw [List.length_map]
    omega
  generalize clashR (ls.map halfL).flatten = x1 at *
  generalize clashR ls.flatten = y1 at *
  generalize tagsR (ls.map halfL).flatten = x2 at *
  generalize tagsR ls.flatten = y2 at *
  generalize enoughV v (heldV first v (ls.map halfL)) = x3 at *
  generalize enoughV v (heldV first v ls) = y3 at *
  generalize heldV first v (ls.map halfL) = out at *
  have c1' := c1
  have c2' := c2
  rw [eV] at c1' c2'
  refine awp_cutK (GhM ls b1 b2 first v) ?_ ?_
  · simp -implicitDefEqProofs [g7]
    refine CallK.with hA (by simp) ?_
    cases hx1 : x1
    · simp -implicitDefEqProofs [g2, g3, g4, g7, c1', c2']
      refine CallK.with hC (by simp) ?_
      cases hx2 : x2
      · simp -implicitDefEqProofs [g2, g3, g4, g7, c1', c2']
        refine CallK.with hM (by simp [eV]) ?_
        cases hx3 : x3
        · simp -implicitDefEqProofs [g2, g3, g4, g7, c1', c2']
          exact ⟨by simp [g2], by simp [g3], by simp [g4], c1, c2, hok, tag, by simp [g7]⟩
        · obtain rfl := m3 hx3
          simp -implicitDefEqProofs [g2, g3, g4, g7, c1', c2']
          refine CallK.with hN (by simp [eV]) ?_
          simp -implicitDefEqProofs [g2, g3, g4, g7, c1', c2']
          exact ⟨by simp [g2], by simp [g3], by simp [g4], c1, c2, hok, tag, by simp [g7]⟩
      · obtain rfl := m2 hx2
        simp -implicitDefEqProofs [g2, g3, g4, g7, c1', c2']
        refine CallK.with hD (by simp) ?_
        simp -implicitDefEqProofs [g2, g3, g4, g7, c1', c2']
        refine CallK.with hM (by simp [eV]) ?_
        cases hx3 : x3
        · simp -implicitDefEqProofs [g2, g3, g4, g7, c1', c2']
          exact ⟨by simp [g2], by simp [g3], by simp [g4], c1, c2, hok, tag, by simp [g7]⟩
        · obtain rfl := m3 hx3
          simp -implicitDefEqProofs [g2, g3, g4, g7, c1', c2']
          refine CallK.with hN (by simp [eV]) ?_
          simp -implicitDefEqProofs [g2, g3, g4, g7, c1', c2']
          exact ⟨by simp [g2], by simp [g3], by simp [g4], c1, c2, hok, tag, by simp [g7]⟩
    · obtain rfl := m1 hx1
      simp -implicitDefEqProofs [g2, g3, g4, g7, c1', c2']
      refine CallK.with hB (by simp) ?_
      simp -implicitDefEqProofs [g2, g3, g4, g7, c1', c2']
      refine CallK.with hC (by simp) ?_
      cases hx2 : x2
      · simp -implicitDefEqProofs [g2, g3, g4, g7, c1', c2']
        refine CallK.with hM (by simp [eV]) ?_
        cases hx3 : x3
        · simp -implicitDefEqProofs [g2, g3, g4, g7, c1', c2']
          exact ⟨by simp [g2], by simp [g3], by simp [g4], c1, c2, hok, tag, by simp [g7]⟩
        · obtain rfl := m3 hx3
          simp -implicitDefEqProofs [g2, g3, g4, g7, c1', c2']
          refine CallK.with hN (by simp [eV]) ?_
          simp -implicitDefEqProofs [g2, g3, g4, g7, c1', c2']
          exact ⟨by simp [g2], by simp [g3], by simp [g4], c1, c2, hok, tag, by simp [g7]⟩
      · obtain rfl := m2 hx2
        simp -implicitDefEqProofs [g2, g3, g4, g7, c1', c2']
        refine CallK.with hD (by simp) ?_
        simp -implicitDefEqProofs [g2, g3, g4, g7, c1', c2']
        refine CallK.with hM (by simp [eV]) ?_
        cases hx3 : x3
        · simp -implicitDefEqProofs [g2, g3, g4, g7, c1', c2']
          exact ⟨by simp [g2], by simp [g3], by simp [g4], c1, c2, hok, tag, by simp [g7]⟩
        · obtain rfl := m3 hx3
          simp -implicitDefEqProofs [g2, g3, g4, g7, c1', c2']
          refine CallK.with hN (by simp [eV]) ?_
          simp -implicitDefEqProofs [g2, g3, g4, g7, c1', c2']
          exact ⟨by simp [g2], by simp [g3], by simp [g4], c1, c2, hok, tag, by simp [g7]⟩
  clear g2 g3 g4 g7 c1 c2 c1' c2' tag
  rintro t hh ⟨g2, g3, g4, c1, c2, hok, tag, g7⟩
  have c1' := c1
  have c2' := c2
  rw [eV] at c1' c2'
  simp -implicitDefEqProofs [g2, g3, g4, g7, c1', c2']
  refine CallK.via hE (by simp [eV]) ?_
  rintro _ ⟨tag2, rfl⟩
  simp -implicitDefEqProofs
  intro _
  refine loopK.post (GiI ls b1 b2 first v out) (fun t => out.length - natOf (t 92)) (fun _ _ => True) ?_ ?_ ?_
  · exact ⟨0, by simp [g2], by simp [g3], by simp [g4], c1, c2, ⟨tag2, by simp⟩, by simp, by simp, by omega⟩
  · clear g2 g3 g4 g7 c1 c2 c1' c2' tag tag2
    rintro t hh ⟨k, g2, g3, g4, c1, c2, ⟨tag2, g90⟩, g91, g92, hk⟩
    by_cases hlt : k < out.length
    · have hlt' : (k : Int) < (out.length : Int) := by omega
      have hw : IntKind.i64.wrap ((k : Int) + 1) = ((k + 1 : Nat) : Int) := by rw [w64 (by omega) (by omega)] <;> omega
      obtain ⟨i, hx⟩ : ∃ i, out[k]? = some i := ⟨out[k], by simp [hlt]⟩
      obtain ⟨n, l, hn, rfl, hl, hh2⟩ := hmem i (List.mem_of_getElem? hx)
      have hlm := hok l (List.mem_of_getElem? hl)
      have hfo := fold_spec first l h1 hlm.1 (by have := hlm.2; omega)
      have hokf := okT_fold h1 hlm.1 l.length (Nat.le_refl _)
      rw [List.take_length] at hokf
      have hwi := within4_spec v (foldS first l).held h2 hokf.rh
      have hh3 : withinV v (foldS first l).held = true := hh2
      rw [hh3] at hwi
      generalize foldS first l = s at *
      have c1' := c1
      have c2' := c2
      rw [eV] at c1' c2'
      simp -implicitDefEqProofs [g90, g91, g92, hlt', hx]
      refine regionK.intro 10 follows_mixed (by kernel_rfl) ?_
      clear hn
      simp -implicitDefEqProofs [g2, g3, g4, c1', c2', hl]
      refine CallQ.with hfo (by simp [eV]) ?_
      simp -implicitDefEqProofs [eSt]
      refine CallQ.with hwi (by simp [eV]) ?_
      simp -implicitDefEqProofs [g92, hw]
      exact ⟨⟨k + 1, by simp [g2], by simp [g3], by simp [g4], c1, c2, ⟨tag2, by simp [g90]⟩, by simp [g91], by simp, by omega⟩, by omega⟩
    · have hlt' : ¬ (k : Int) < (out.length : Int) := by omega
      simp -implicitDefEqProofs [g91, g92, hlt']
  rintro t hh -
  simp -implicitDefEqProofs
end Go.Proofs.YtjbbfiagijjdoaaGreat

/- The law AuditTurns. No condition. -/
set_option linter.unusedSimpArgs false
set_option linter.unusedVariables false
set_option maxRecDepth 10000
namespace Go.Proofs.YtjbbfiagijjdoaaGreat
open Go Go.Rw Go.Proofs
-- a goal is never to be run by the elaborator
attribute [local irreducible] awp aops aop aopsE aeff

theorem any_two_same {α : Type} {p : α → α → Bool} {a b : List α} (h : ∀ x, x ∈ a ↔ x ∈ b) : (a.any fun x => a.any (p x)) = (b.any fun x => b.any (p x)) := by
  cases ha : a.any fun x => a.any (p x) <;> cases hb : b.any fun x => b.any (p x)
  · rfl
  · rw [any_two_mono (fun x hx => (h x).2 hx) hb] at ha; cases ha
  · rw [any_two_mono (fun x hx => (h x).1 hx) ha] at hb; cases hb
  · rfl
theorem twice_mem (l : List PRec) (x : PRec) : x ∈ [l, l].flatten ↔ x ∈ [l].flatten := by simp
theorem back_mem (ls : List (List PRec)) (x : PRec) : x ∈ ls.reverse.flatten ↔ x ∈ ls.flatten := by simp [List.mem_flatten]
def TuI (ls : List (List PRec)) (t : Nat → AV) (h : Nat → Option (List AV)) : Prop := ∃ (n : Nat) (tag : Tag), t 0 = .sl .no (eRss ls) ∧ t 3 = .sl tag (eRss (ls.drop n).reverse) ∧ appOK tag 22 1 ∧ t 4 = eI ((n : Int) - 1) ∧ n ≤ ls.length ∧ ∀ l ∈ ls.drop n, logOK l
def TuM (ls : List (List PRec)) (t : Nat → AV) (h : Nat → Option (List AV)) : Prop := ∃ tag : Tag, t 0 = .sl .no (eRss ls) ∧ t 3 = .sl tag (eRss ls.reverse) ∧ ∀ l ∈ ls, logOK l
def TuJ (ls : List (List PRec)) (p : Nat) (tag : Tag) (l : List PRec) (t : Nat → AV) (h : Nat → Option (List AV)) : Prop := ∃ j : Nat, t 0 = .sl .no (eRss ls) ∧ t 3 = .sl tag (eRss (ls.drop (p + 1)).reverse) ∧ t 4 = eI p ∧ t 29 = .sl .no (eRs l) ∧ t 30 = eI l.length ∧ t 31 = eI j ∧ j ≤ l.length ∧ ∀ r ∈ l.take j, rightR r = true
def TuN (ls : List (List PRec)) (p : Nat) (tag : Tag) (l : List PRec) (t : Nat → AV) (h : Nat → Option (List AV)) : Prop := t 0 = .sl .no (eRss ls) ∧ t 3 = .sl tag (eRss (ls.drop (p + 1)).reverse) ∧ t 4 = eI p ∧ ∀ r ∈ l, rightR r = true
theorem turns22_law (ls : List (List PRec)) (hf : ∀ l ∈ ls, ∀ r ∈ l, fitR r) : ASpec Tryz.prog 10 [.sl .no (eRss ls)] (· = .v (.bool true)) := by
  refine ASpec.of_awp Tryz.func10 (by kernel_rfl) rfl (by rw [Tryz.results10]) Tryz.ntmps10 ?_
  simp -implicitDefEqProofs
  refine CallK.eq alive22_spec ?_
  simp -implicitDefEqProofs
  intro _
  by_cases h6 : 6 < ls.length
  · have h6' : (6 : Int) < (ls.length : Int) := by omega
    simp -implicitDefEqProofs [h6, h6']
  have h6' : ¬ (6 : Int) < (ls.length : Int) := by omega
  have hwl : IntKind.i64.wrap ((ls.length : Int) - 1) = (ls.length : Int) - 1 := w64 (by omega) (by omega)
  simp -implicitDefEqProofs [h6, h6', hwl]
  intro _
  refine loopK.post (TuI ls) (fun t => lastN (t 4)) (TuM ls) ?_ ?_ ?_
  · exact ⟨ls.length, _, by simp, by simp [eRss]; rfl, by simp, by simp, by omega, by simp⟩
  · rintro t hh ⟨n, tag, g0, g3, gt, g4, hn, hok⟩
    cases n with
    | zero =>
      rw [List.drop_zero] at hok g3
      simp -implicitDefEqProofs [g4]
      exact ⟨tag, by simp [g0], by simp [g3], hok⟩
    | succ p =>
      have g4' : t 4 = eI (p : Int) := by rw [g4]; congr 3; omega
      have hm4 : lastN (t 4) = p + 1 := by rw [g4']; simp
      rw [hm4]
      obtain ⟨l, hx⟩ : ∃ l, ls[p]? = some l := ⟨ls[p], by simp⟩
      have hlm := List.mem_of_getElem? hx
      have hw : IntKind.i64.wrap ((p : Int) - 1) = (p : Int) - 1 := w64 (by omega) (by omega)
      have hp0 : (0 : Int) ≤ (p : Int) := by omega
      have hdp : ls.drop p = l :: ls.drop (p + 1) := by
        rw [List.getElem?_eq_getElem (by omega)] at hx
        rw [List.drop_eq_getElem_cons (by omega), Option.some.inj hx]
      by_cases h30 : 30 < l.length
      · have h30' : (30 : Int) < (l.length : Int) := by omega
        clear hn
        simp -implicitDefEqProofs [g0, g4', hp0, hx, h30, h30']
        done
      have h30' : ¬ (30 : Int) < (l.length : Int) := by omega
      have hn2 := hn
      clear hn
      simp -implicitDefEqProofs [g0, g4', hp0, hx, h30, h30']
      intro _
      refine loopK.post (TuJ ls p tag l) (fun t => l.length - natOf (t 31)) (TuN ls p tag l) ?_ ?_ ?_
      · exact ⟨0, by simp [g0], by simp [g3], by simp [g4'], by simp, by simp, by simp, by omega, by simp⟩
      · clear g0 g3 g4 g4' hm4
        rintro t hh ⟨j, g0, g3, g4, g29, g30, g31, hj, hjr⟩
        by_cases hjl : j < l.length
        · have hjl' : (j : Int) < (l.length : Int) := by omega
          have hwj : IntKind.i64.wrap ((j : Int) + 1) = ((j + 1 : Nat) : Int) := by rw [w64 (by omega) (by omega)] <;> omega
          obtain ⟨r, hy⟩ : ∃ r, l[j]? = some r := ⟨l[j], by simp [hjl]⟩
          have hrf := hf l hlm r (List.mem_of_getElem? hy)
          simp -implicitDefEqProofs [g29, g30, g31, hjl', hy, eRc]
          refine allocK.intro (fun b3 hb3 => ?_)
          simp -implicitDefEqProofs
          refine CallK.with (right9r_spec r hrf) (by simp [eRc]) ?_
          cases hrr : rightR r
          · simp -implicitDefEqProofs
          simp -implicitDefEqProofs [g31, hwj]
          refine ⟨⟨j + 1, by simp [g0], by simp [g3], by simp [g4], by simp [g29], by simp [g30], by simp, by omega, fun x hx2 => ?_⟩, by omega⟩
          rw [List.take_add_one, hy] at hx2
          rcases List.mem_append.1 hx2 with h | h
          · exact hjr x h
          · simp at h; rw [h]; exact hrr
        · have hjl' : ¬ (j : Int) < (l.length : Int) := by omega
          rw [List.take_of_length_le (by omega)] at hjr
          simp -implicitDefEqProofs [g30, g31, hjl']
          exact ⟨by simp [g0], by simp [g3], by simp [g4], hjr⟩
      clear g0 g3 g4 g4' hm4
      rintro t hh ⟨g0, g3, g4, hjr⟩
      have hll : l.length ≤ 30 := by omega
      have hA := clash22_spec [l, l] (by simp; omega)
      have hB := clash22_spec [l] (by simp; omega)
      have hC := tags22_spec [l, l] (by simp; omega)
      have hD := tags22_spec [l] (by simp; omega)
      have e1 : clashR [l, l].flatten = clashR [l].flatten := any_two_same (twice_mem l)
      have e2 : tagsR [l, l].flatten = tagsR [l].flatten := any_two_same (twice_mem l)
      rw [e1] at hA
      rw [e2] at hC
      generalize clashR [l].flatten = y1 at *
      generalize tagsR [l].flatten = y2 at *
      have hml : (eRss (ls.drop (p + 1)).reverse).length ≤ 6 := by simp; omega
      simp -implicitDefEqProofs
      refine regionK.intro 36 follows_mixed (by kernel_rfl) ?_
      simp -implicitDefEqProofs [g0, g4, hx]
      refine CallQ.with hA (by simp [eRss]) ?_
      simp -implicitDefEqProofs [g0, g4, hx]
      refine CallQ.with hB (by simp [eRss]) ?_
      simp -implicitDefEqProofs [g0, g4, hx]
      refine CallQ.with hC (by simp [eRss]) ?_
      simp -implicitDefEqProofs [g0, g4, hx]
      refine CallQ.with hD (by simp [eRss]) ?_
      simp -implicitDefEqProofs [g0, g3, gt, g4, hx, hw]
      refine ⟨⟨eRss_one1 _, by omega⟩, ⟨p, appTag tag 22 1 [[.sl .no (eRs l)]], by simp [g0], by rw [hdp]; simp [eRss], by simp [gt], by simp, by omega, fun x hx2 => ?_⟩⟩
      rw [hdp] at hx2
      rcases List.mem_cons.1 hx2 with h | h
      · rw [h]; exact ⟨hjr, hll⟩
      · exact hok x h
  rintro t hh ⟨tag, g0, g3, hok⟩
  have hoh : ∀ l ∈ ls.reverse, logOK l := fun l hl => hok l (by simpa using hl)
  have hfl := flats_len hok
  have hfh := flats_len hoh
  rw [List.length_reverse] at hfh
  have hA := clash22_spec ls.reverse (by omega)
  have hB := clash22_spec ls (by omega)
  have hC := tags22_spec ls.reverse (by omega)
  have hD := tags22_spec ls (by omega)
  have e1 : clashR ls.reverse.flatten = clashR ls.flatten := any_two_same (back_mem ls)
  have e2 : tagsR ls.reverse.flatten = tagsR ls.flatten := any_two_same (back_mem ls)
  rw [e1] at hA
  rw [e2] at hC
  generalize clashR ls.flatten = y1 at *
  generalize tagsR ls.flatten = y2 at *
  simp -implicitDefEqProofs [g0, g3]
  refine CallK.with hA (by simp) ?_
  simp -implicitDefEqProofs [g0, g3]
  refine CallK.with hB (by simp) ?_
  simp -implicitDefEqProofs [g0, g3]
  refine CallK.with hC (by simp) ?_
  simp -implicitDefEqProofs [g0, g3]
  refine CallK.with hD (by simp) ?_
  simp -implicitDefEqProofs [g0, g3]
end Go.Proofs.YtjbbfiagijjdoaaGreat
