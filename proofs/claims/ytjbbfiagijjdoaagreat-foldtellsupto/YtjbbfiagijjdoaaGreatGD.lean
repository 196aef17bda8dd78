/- Parts of the proof: what is used by the law. No condition. -/
import Derived.Test.YtjbbfiagijjdoaaGreatGC
set_option linter.unusedSimpArgs false
set_option linter.unusedVariables false
/- Contracts: parting views in memory of one's own. No condition. Printed by sort/v4.py. -/
set_option linter.unusedSimpArgs false
set_option linter.unusedVariables false
set_option maxRecDepth 10000
namespace Go.Proofs.YtjbbfiagijjdoaaGreat
open Go Go.Rw Go.Proofs
-- a goal is never to be run by the elaborator
attribute [local irreducible] awp aops aop aopsE aeff

theorem scanUp_step {P : PView → Bool} {d : Array PView} {i j : Nat} (h : i ≤ j) : Go.Sort.scanUp P d j i = if P d[i]! then Go.Sort.scanUp P d j (i + 1) else i := by
  rw [Go.Sort.scanUp]; simp [h]
theorem scanUp_over {P : PView → Bool} {d : Array PView} {i j : Nat} (h : ¬ i ≤ j) : Go.Sort.scanUp P d j i = i := by
  rw [Go.Sort.scanUp]; simp [h]
theorem scanDown_step {P : PView → Bool} {d : Array PView} {i j : Nat} (h : i ≤ j) (h1 : 1 ≤ i) : Go.Sort.scanDown P d i j = if P d[j]! then Go.Sort.scanDown P d i (j - 1) else j := by
  cases j with
  | zero => omega
  | succ j => rw [Go.Sort.scanDown]; simp [h]
theorem scanDown_over {P : PView → Bool} {d : Array PView} {i j : Nat} (h : ¬ i ≤ j) : Go.Sort.scanDown P d i j = j := by
  cases j with
  | zero => rfl
  | succ j => rw [Go.Sort.scanDown]; simp [h]
def ScnU (n cap a b1 ti tj : Nat) (sp : List AV) (g : FuncId) (d : Array PView) (P : PView → Bool) (j I : Nat) (t : Nat → AV) (h : Nat → Option (List AV)) : Prop := ∃ i : Nat, t 0 = .sm b1 0 n cap ∧ t 1 = eI a ∧ t 4 = .fn g [] ∧ t ti = eI i ∧ t tj = eI j ∧ h b1 = some (memV d sp) ∧ a < i ∧ i ≤ n ∧ Go.Sort.scanUp P d j i = I
def ScnD (n cap a b1 ti tj : Nat) (sp : List AV) (g : FuncId) (d : Array PView) (P : PView → Bool) (i J : Nat) (t : Nat → AV) (h : Nat → Option (List AV)) : Prop := ∃ j : Nat, t 0 = .sm b1 0 n cap ∧ t 1 = eI a ∧ t 4 = .fn g [] ∧ t ti = eI i ∧ t tj = eI j ∧ h b1 = some (memV d sp) ∧ j < n ∧ Go.Sort.scanDown P d i j = J
def ScnM (n cap a b1 ti tj : Nat) (sp : List AV) (g : FuncId) (d : Array PView) (i j : Nat) (t : Nat → AV) (h : Nat → Option (List AV)) : Prop := t 0 = .sm b1 0 n cap ∧ t 1 = eI a ∧ t 4 = .fn g [] ∧ t ti = eI i ∧ t tj = eI j ∧ h b1 = some (memV d sp)
theorem scanUp_in {P : PView → Bool} {d : Array PView} {i j n : Nat} (hi : i ≤ n) (hj : j < n) : i ≤ Go.Sort.scanUp P d j i ∧ Go.Sort.scanUp P d j i ≤ n := by
  have h := Go.Sort.scanUp_spec P d j _ i rfl
  refine ⟨h.1, ?_⟩
  by_cases h2 : i ≤ j + 1
  · have := h.2.1 h2; omega
  · rw [scanUp_over (by omega)]; exact hi
def PtEqI (cm : PView → PView → Int) (Q : PView → Prop) (n cap a b1 : Nat) (sp : List AV) (g : FuncId) (D : Nat × Array PView) (t : Nat → AV) (h : Nat → Option (List AV)) : Prop := ∃ (i j : Nat) (d : Array PView), t 0 = .sm b1 0 n cap ∧ t 1 = eI a ∧ t 4 = .fn g [] ∧ t 11 = eI i ∧ t 12 = eI j ∧ h b1 = some (memV d sp) ∧ d.size = n ∧ a < i ∧ i ≤ n ∧ j < n ∧ Go.Sort.partEqLoop (ltV cm) a i j d = D ∧ ∀ k < d.size, Q d[k]!
def PtEqM (Q : PView → Prop) (n cap a b1 : Nat) (sp : List AV) (D : Nat × Array PView) (t : Nat → AV) (h : Nat → Option (List AV)) : Prop := t 0 = .sm b1 0 n cap ∧ t 1 = eI a ∧ t 11 = eI D.1 ∧ h b1 = some (memV D.2 sp) ∧ D.2.size = n ∧ ∀ k < D.2.size, Q D.2[k]!
def PtI (cm : PView → PView → Int) (Q : PView → Prop) (n cap a b1 : Nat) (sp : List AV) (g : FuncId) (D : Nat × Array PView) (t : Nat → AV) (h : Nat → Option (List AV)) : Prop := ∃ (i j : Nat) (d : Array PView), t 0 = .sm b1 0 n cap ∧ t 1 = eI a ∧ t 4 = .fn g [] ∧ t 12 = eI i ∧ t 13 = eI j ∧ h b1 = some (memV d sp) ∧ d.size = n ∧ a < i ∧ i ≤ n ∧ j < n ∧ Go.Sort.partLoop (ltV cm) a i j d = D ∧ ∀ k < d.size, Q d[k]!
def PtM (Q : PView → Prop) (n cap a b1 : Nat) (sp : List AV) (D : Nat × Array PView) (t : Nat → AV) (h : Nat → Option (List AV)) : Prop := t 0 = .sm b1 0 n cap ∧ t 1 = eI a ∧ t 13 = eI D.1 ∧ h b1 = some (memV D.2 sp) ∧ D.2.size = n ∧ D.1 < n ∧ ∀ k < D.2.size, Q D.2[k]!
theorem partEqV (cm : PView → PView → Int) (Q : PView → Prop) (g : FuncId) (hg : ∀ x y, Q x → Q y → ASpec Tryz.prog g [.agg (eV x), .agg (eV y)] (· = eI (cm x y))) (d : Array PView) (hq : ∀ k < d.size, Q d[k]!) (sp : List AV) (b1 cap a b pivot : Nat) (hap : a ≤ pivot) (hpb : pivot < b) (hb : b ≤ d.size) (hl : d.size ≤ 1000000000) :
    MSpec Tryz.prog 183 [.sm b1 0 d.size cap, eI a, eI b, eI pivot, .fn g []] (one b1 (memV d sp)) (fun r h' => r = eI (Go.Sort.partitionEqual (ltV cm) d a b pivot).1 ∧ h' = one b1 (memV (Go.Sort.partitionEqual (ltV cm) d a b pivot).2 sp)) := by
  refine MSpec.of_awp Tryz.func183 (by kernel_rfl) rfl (by rw [Tryz.results183]) Tryz.ntmps183 ?_
  have hE : Go.Sort.partitionEqual (ltV cm) d a b pivot = Go.Sort.partEqLoop (ltV cm) a (a + 1) (b - 1) (Go.Sort.swp d a pivot) := rfl
  rw [hE]
  clear hE
  have hwa : IntKind.i64.wrap ((a : Int) + 1) = ((a + 1 : Nat) : Int) := by rw [w64 (by omega) (by omega)] <;> omega
  have hwb : IntKind.i64.wrap ((b : Int) - 1) = ((b - 1 : Nat) : Int) := by rw [w64 (by omega) (by omega)] <;> omega
  have z1 : a < d.size := by omega
  have z2 : pivot < d.size := by omega
  have z1' : (a : Int) < (d.size : Int) := by omega
  have z2' : (pivot : Int) < (d.size : Int) := by omega
  obtain ⟨c2, ⟨q1, q2⟩, ⟨q3, q4⟩, s1, f2, s2⟩ := swapV (d := d) (sp := sp) (i := a) (j := pivot) (by omega) (by omega)
  have hss : (Go.Sort.swp d (a) (pivot)).size = d.size := by rw [Go.Sort.swp_size]
  have hqs := swp_allV (Q := Q) (d := d) (i := a) (j := pivot) (by omega) (by omega) hq
  generalize hc1 : memV d sp = c1 at *
  generalize hsw : Go.Sort.swp d (a) (pivot) = d3 at *
  generalize hc3 : memV d3 sp = c3 at *
  generalize d[a]! = x at *
  generalize d[pivot]! = y at *
  generalize hE : Go.Sort.partEqLoop (ltV cm) a (a + 1) (b - 1) d3 = D
  simp -implicitDefEqProofs
  refine regionK.modes [b1] [.r, .r, .q, .q, .r, .r, .r, .r, .q, .q, .q, .r, .r, .l, .r, .l] follows_mixed (by kernel_rfl) ?_
  simp -implicitDefEqProofs [z1, z2, z1', z2', q1, q2, q3, q4, s1, s2, f2, eV, hwa, hwb]
  refine loopK.post (PtEqI cm Q d.size cap a b1 sp g D) (fun t => natOf (t 12) + 1 - natOf (t 11)) (PtEqM Q d.size cap a b1 sp D) ?_ ?_ ?_
  · exact ⟨a + 1, b - 1, d3, by simp, by simp, by simp, by simp, by simp, by simp [hc3], hss, by omega, by omega, by omega, hE, hqs⟩
  · clear hE hqs hss hsw hc3 q1 q2 q3 q4 s1 s2 f2 z1 z2 z1' z2' hwa hwb hc1
    clear c1 c2 c3 x y d3
    clear hq
    rintro t hh ⟨i, j, d2, g0, g1, g4, gi, gj, k1, hs, hi1, hi2, hj1, hD, hq⟩
    have hg1 := Go.Sort.partEqLoop_guard (ltV cm) a i j d2
    rw [Go.Sort.partEqLoop_eq] at hD
    obtain ⟨P, hP⟩ : ∃ P : PView → Bool, P = fun x => !ltV cm d2[a]! x := ⟨_, rfl⟩
    obtain ⟨P2, hP2⟩ : ∃ P2 : PView → Bool, P2 = fun x => ltV cm d2[a]! x := ⟨_, rfl⟩
    rw [← hP, ← hP2] at hD hg1
    obtain ⟨hI1, hI2⟩ := scanUp_in (P := P) (d := d2) hi2 hj1
    have hJ1 := Go.Sort.scanDown_le P2 d2 (Go.Sort.scanUp P d2 j i) j
    generalize hI : Go.Sort.scanUp P d2 j i = I at hD hI1 hI2 hJ1 hg1
    generalize hJ : Go.Sort.scanDown P2 d2 I j = J at hD hJ1 hg1
    have hm : natOf (t 12) + 1 - natOf (t 11) = j + 1 - i := by rw [gi, gj]; simp
    rw [hm]
    have ha0 : a < I := by omega
    simp -implicitDefEqProofs
    refine loopK.post (ScnU d.size cap a b1 11 12 sp g d2 P j I) (fun t => j + 1 - natOf (t 11)) (ScnM d.size cap a b1 11 12 sp g d2 I j) ?_ ?_ ?_
    · exact ⟨i, by simp [g0], by simp [g1], by simp [g4], by simp [gi], by simp [gj], by simp [k1], by omega, by omega, hI⟩

    · clear g0 g1 g4 gi gj k1 hi1 hi2 hI
      rintro t hh ⟨i, g0, g1, g4, gi, gj, k1, hi1, hi2, hI⟩
      by_cases hij : i ≤ j
      · have hij' : (i : Int) ≤ (j : Int) := by omega
        rw [scanUp_step hij] at hI
        have hPy : P d2[i]! = !decide (cm d2[a]! d2[i]! < 0) := by rw [hP]; rfl
        rw [hPy] at hI
        obtain ⟨u1, u2⟩ := memV_at (d := d2) (sp := sp) (k := a) (by omega)
        obtain ⟨u3, u4⟩ := memV_at (d := d2) (sp := sp) (k := i) (by omega)
        have hx := hg d2[a]! d2[i]! (hq _ (by omega)) (hq _ (by omega))
        have y1 : a < d.size := by omega
        have y2 : i < d.size := by omega
        have y1' : (a : Int) < (d.size : Int) := by omega
        have y2' : (i : Int) < (d.size : Int) := by omega
        generalize hc1 : memV d2 sp = c1 at *
        clear hPy
        generalize d2[a]! = x at *
        generalize d2[i]! = y at *
        have hwk : IntKind.i64.wrap ((i : Int) + 1) = ((i + 1 : Nat) : Int) := by rw [w64 (by omega) (by omega)] <;> omega
        simp -implicitDefEqProofs [g0, g1, g4, gi, gj]
        refine regionK.intro 17 follows_mixed (by kernel_rfl) ?_
        simp -implicitDefEqProofs [g0, g1, g4, gi, gj, hij', y1, y2, y1', y2', k1, u1, u2, u3, u4, eV]
        refine CallQ.with hx (by simp [eV]) ?_
        by_cases hcm : cm x y < 0
        · simp [hcm] at hI
          subst hI
          simp -implicitDefEqProofs [hcm, gi, gj]
          exact ⟨by simp [g0], by simp [g1], by simp [g4], by simp [gi], by simp [gj], by rw [hc1]; exact k1⟩
        · simp -implicitDefEqProofs [hcm, gi, gj, hwk]
          exact ⟨⟨i + 1, by simp [g0], by simp [g1], by simp [g4], by simp, by simp [gj], by rw [hc1]; exact k1, by omega, by omega, by simpa [hcm] using hI⟩, by omega⟩
      · have hij' : ¬ (i : Int) ≤ (j : Int) := by omega
        rw [scanUp_over hij] at hI
        subst hI
        simp -implicitDefEqProofs [g0, g1, g4, gi, gj]
        refine regionK.intro 17 follows_mixed (by kernel_rfl) ?_
        simp -implicitDefEqProofs [g0, g1, g4, gi, gj, hij']
        exact ⟨by simp [g0], by simp [g1], by simp [g4], by simp [gi], by simp [gj], k1⟩
    clear g0 g1 g4 gi gj k1 hI
    rintro t hh ⟨g0, g1, g4, gi, gj, k1⟩
    simp -implicitDefEqProofs
    refine loopK.post (ScnD d.size cap a b1 11 12 sp g d2 P2 I J) (fun t => natOf (t 12)) (ScnM d.size cap a b1 11 12 sp g d2 I J) ?_ ?_ ?_
    · exact ⟨j, by simp [g0], by simp [g1], by simp [g4], by simp [gi], by simp [gj], by simp [k1], by omega, hJ⟩

    · clear g0 g1 g4 gi gj k1 hj1 hJ
      rintro t hh ⟨j, g0, g1, g4, gi, gj, k1, hj1, hJ⟩
      by_cases hij : I ≤ j
      · have hij' : (I : Int) ≤ (j : Int) := by omega
        rw [scanDown_step hij (by omega)] at hJ
        have hPy : P2 d2[j]! = decide (cm d2[a]! d2[j]! < 0) := by rw [hP2]; rfl
        rw [hPy] at hJ
        obtain ⟨u1, u2⟩ := memV_at (d := d2) (sp := sp) (k := a) (by omega)
        obtain ⟨u3, u4⟩ := memV_at (d := d2) (sp := sp) (k := j) (by omega)
        have hx := hg d2[a]! d2[j]! (hq _ (by omega)) (hq _ (by omega))
        have y1 : a < d.size := by omega
        have y2 : j < d.size := by omega
        have y1' : (a : Int) < (d.size : Int) := by omega
        have y2' : (j : Int) < (d.size : Int) := by omega
        generalize hc1 : memV d2 sp = c1 at *
        clear hPy
        generalize d2[a]! = x at *
        generalize d2[j]! = y at *
        have hwk : IntKind.i64.wrap ((j : Int) - 1) = ((j - 1 : Nat) : Int) := by rw [w64 (by omega) (by omega)] <;> omega
        simp -implicitDefEqProofs [g0, g1, g4, gi, gj]
        refine regionK.intro 16 follows_mixed (by kernel_rfl) ?_
        simp -implicitDefEqProofs [g0, g1, g4, gi, gj, hij', y1, y2, y1', y2', k1, u1, u2, u3, u4, eV]
        refine CallQ.with hx (by simp [eV]) ?_
        by_cases hcm : cm x y < 0
        · simp -implicitDefEqProofs [hcm, gi, gj, hwk]
          exact ⟨⟨j - 1, by simp [g0], by simp [g1], by simp [g4], by simp [gi], by simp, by rw [hc1]; exact k1, by omega, by simpa [hcm] using hJ⟩, by omega⟩
        · simp [hcm] at hJ
          subst hJ
          simp -implicitDefEqProofs [hcm, gi, gj]
          exact ⟨by simp [g0], by simp [g1], by simp [g4], by simp [gi], by simp [gj], by rw [hc1]; exact k1⟩
      · have hij' : ¬ (I : Int) ≤ (j : Int) := by omega
        rw [scanDown_over hij] at hJ
        subst hJ
        simp -implicitDefEqProofs [g0, g1, g4, gi, gj]
        refine regionK.intro 16 follows_mixed (by kernel_rfl) ?_
        simp -implicitDefEqProofs [g0, g1, g4, gi, gj, hij']
        exact ⟨by simp [g0], by simp [g1], by simp [g4], by simp [gi], by simp [gj], k1⟩
    clear g0 g1 g4 gi gj k1 hJ
    rintro t hh ⟨g0, g1, g4, gi, gj, k1⟩
    by_cases hgt : J < I
    · have hgt' : (J : Int) < (I : Int) := by omega
      rw [if_pos hgt] at hD
      subst hD
      simp -implicitDefEqProofs [gi, gj, hgt']
      exact ⟨by simp [g0], by simp [g1], by simp [gi], by simp [k1], hs, hq⟩
    · have hgt' : ¬ (J : Int) < (I : Int) := by omega
      rw [if_neg hgt] at hD
      have hg1 := hg1 hgt
      have hwi : IntKind.i64.wrap ((I : Int) + 1) = ((I + 1 : Nat) : Int) := by rw [w64 (by omega) (by omega)] <;> omega
      have hwj : IntKind.i64.wrap ((J : Int) - 1) = ((J - 1 : Nat) : Int) := by rw [w64 (by omega) (by omega)] <;> omega
      have z1 : I < d.size := by omega
      have z2 : J < d.size := by omega
      have z1' : (I : Int) < (d.size : Int) := by omega
      have z2' : (J : Int) < (d.size : Int) := by omega
      clear hP hP2
      obtain ⟨c2, ⟨q1, q2⟩, ⟨q3, q4⟩, s1, f2, s2⟩ := swapV (d := d2) (sp := sp) (i := I) (j := J) (by omega) (by omega)
      have hss : (Go.Sort.swp d2 (I) (J)).size = d.size := by rw [Go.Sort.swp_size, hs]
      have hqs := swp_allV (Q := Q) (d := d2) (i := I) (j := J) (by omega) (by omega) hq
      generalize hc1 : memV d2 sp = c1 at *
      generalize hsw : Go.Sort.swp d2 (I) (J) = d3 at *
      generalize hc3 : memV d3 sp = c3 at *
      generalize d2[I]! = x at *
      generalize d2[J]! = y at *
      simp -implicitDefEqProofs [gi, gj, hgt']
      refine regionK.modes [b1] [.r, .r, .q, .q, .r, .r, .r, .r, .q, .q, .q, .r, .r, .l, .r, .l] follows_mixed (by kernel_rfl) ?_
      simp -implicitDefEqProofs [g0, g1, g4, gi, gj, z1, z2, z1', z2', k1, q1, q2, q3, q4, s1, s2, f2, eV, hwi, hwj]
      exact ⟨⟨I + 1, J - 1, d3, by simp [g0], by simp [g1], by simp [g4], by simp, by simp, by simp [hc3], hss, by omega, by omega, by omega, hD, hqs⟩, by omega⟩
  · rintro t hh ⟨g0, g1, gi, k1, hs, hqD⟩
    simp -implicitDefEqProofs [gi, k1, Weak.refl]
theorem partV (cm : PView → PView → Int) (Q : PView → Prop) (g : FuncId) (hg : ∀ x y, Q x → Q y → ASpec Tryz.prog g [.agg (eV x), .agg (eV y)] (· = eI (cm x y))) (d : Array PView) (hq : ∀ k < d.size, Q d[k]!) (sp : List AV) (b1 cap a b pivot : Nat) (hap : a ≤ pivot) (hpb : pivot < b) (hb : b ≤ d.size) (hl : d.size ≤ 1000000000) :
    MSpec Tryz.prog 184 [.sm b1 0 d.size cap, eI a, eI b, eI pivot, .fn g []] (one b1 (memV d sp)) (fun r h' => r = .tup [eI (Go.Sort.partition (ltV cm) d a b pivot).1, .v (.bool (Go.Sort.partition (ltV cm) d a b pivot).2.1)] ∧ h' = one b1 (memV (Go.Sort.partition (ltV cm) d a b pivot).2.2 sp)) := by
  refine MSpec.of_awp Tryz.func184 (by kernel_rfl) rfl (by rw [Tryz.results184]) Tryz.ntmps184 ?_
  generalize hE : Go.Sort.partition (ltV cm) d a b pivot = E
  unfold Go.Sort.partition at hE
  have hwa : IntKind.i64.wrap ((a : Int) + 1) = ((a + 1 : Nat) : Int) := by rw [w64 (by omega) (by omega)] <;> omega
  have hwb : IntKind.i64.wrap ((b : Int) - 1) = ((b - 1 : Nat) : Int) := by rw [w64 (by omega) (by omega)] <;> omega
  have z1 : a < d.size := by omega
  have z2 : pivot < d.size := by omega
  have z1' : (a : Int) < (d.size : Int) := by omega
  have z2' : (pivot : Int) < (d.size : Int) := by omega
  obtain ⟨c2, ⟨q1, q2⟩, ⟨q3, q4⟩, s1, f2, s2⟩ := swapV (d := d) (sp := sp) (i := a) (j := pivot) (by omega) (by omega)
  have hss : (Go.Sort.swp d (a) (pivot)).size = d.size := by rw [Go.Sort.swp_size]
  have hqs := swp_allV (Q := Q) (d := d) (i := a) (j := pivot) (by omega) (by omega) hq
  generalize hc1 : memV d sp = c1 at *
  generalize hsw : Go.Sort.swp d (a) (pivot) = d3 at *
  generalize hc3 : memV d3 sp = c3 at *
  generalize d[a]! = x at *
  generalize d[pivot]! = y at *
  simp only at hE
  obtain ⟨P, hP⟩ : ∃ P : PView → Bool, P = fun x => ltV cm x d3[a]! := ⟨_, rfl⟩
  obtain ⟨P2, hP2⟩ : ∃ P2 : PView → Bool, P2 = fun x => !ltV cm x d3[a]! := ⟨_, rfl⟩
  rw [← hP, ← hP2] at hE
  obtain ⟨i, hi⟩ : ∃ i, i = a + 1 := ⟨_, rfl⟩
  obtain ⟨j, hj⟩ : ∃ j, j = b - 1 := ⟨_, rfl⟩
  rw [← hi, ← hj] at hE
  rw [← hi] at hwa
  rw [← hj] at hwb
  obtain ⟨hI1, hI2⟩ := scanUp_in (P := P) (d := d3) (i := i) (j := j) (n := d.size) (by omega) (by omega)
  have hJ1 := Go.Sort.scanDown_le P2 d3 (Go.Sort.scanUp P d3 j i) j
  generalize hI : Go.Sort.scanUp P d3 j i = I at hE hI1 hI2 hJ1
  generalize hJ : Go.Sort.scanDown P2 d3 I j = J at hE hJ1
  simp -implicitDefEqProofs
  refine regionK.modes [b1] [.r, .r, .q, .q, .r, .r, .r, .r, .q, .q, .q, .r, .r, .l, .r, .l] follows_mixed (by kernel_rfl) ?_
  simp -implicitDefEqProofs [z1, z2, z1', z2', q1, q2, q3, q4, s1, s2, f2, eV, hwa, hwb]
  clear q1 q2 q3 q4 s1 s2 f2 z2 z2' hwa hwb hc1 hq
  have hs := hss
  have hq := hqs
  clear hqs hss hsw
  have ha0 : a < I := by omega
  have hj1 : j < d.size := by omega
  rw [← hc3]
  refine loopK.post (ScnU d.size cap a b1 12 13 sp g d3 P j I) (fun t => j + 1 - natOf (t 12)) (ScnM d.size cap a b1 12 13 sp g d3 I j) ?_ ?_ ?_
  · exact ⟨i, by simp, by simp, by simp, by simp, by simp, by simp, by omega, by omega, hI⟩
  · rintro t hh ⟨i, g0, g1, g4, gi, gj, k1, hi1, hi2, hI⟩
    by_cases hij : i ≤ j
    · have hij' : (i : Int) ≤ (j : Int) := by omega
      rw [scanUp_step hij] at hI
      have hPy : P d3[i]! = decide (cm d3[i]! d3[a]! < 0) := by rw [hP]; rfl
      rw [hPy] at hI
      obtain ⟨u1, u2⟩ := memV_at (d := d3) (sp := sp) (k := a) (by omega)
      obtain ⟨u3, u4⟩ := memV_at (d := d3) (sp := sp) (k := i) (by omega)
      have hx := hg d3[i]! d3[a]! (hq _ (by omega)) (hq _ (by omega))
      have y1 : a < d.size := by omega
      have y2 : i < d.size := by omega
      have y1' : (a : Int) < (d.size : Int) := by omega
      have y2' : (i : Int) < (d.size : Int) := by omega
      generalize hc1 : memV d3 sp = c1 at *
      clear hPy
      generalize d3[i]! = x at *
      generalize d3[a]! = y at *
      have hwk : IntKind.i64.wrap ((i : Int) + 1) = ((i + 1 : Nat) : Int) := by rw [w64 (by omega) (by omega)] <;> omega
      simp -implicitDefEqProofs [g0, g1, g4, gi, gj]
      refine regionK.intro 16 follows_mixed (by kernel_rfl) ?_
      simp -implicitDefEqProofs [g0, g1, g4, gi, gj, hij', y1, y2, y1', y2', k1, u1, u2, u3, u4, eV]
      refine CallQ.with hx (by simp [eV]) ?_
      by_cases hcm : cm x y < 0
      · simp -implicitDefEqProofs [hcm, gi, gj, hwk]
        exact ⟨⟨i + 1, by simp [g0], by simp [g1], by simp [g4], by simp, by simp [gj], by rw [hc1]; exact k1, by omega, by omega, by simpa [hcm] using hI⟩, by omega⟩
      · simp [hcm] at hI
        subst hI
        simp -implicitDefEqProofs [hcm, gi, gj]
        exact ⟨by simp [g0], by simp [g1], by simp [g4], by simp [gi], by simp [gj], by rw [hc1]; exact k1⟩
    · have hij' : ¬ (i : Int) ≤ (j : Int) := by omega
      rw [scanUp_over hij] at hI
      subst hI
      simp -implicitDefEqProofs [g0, g1, g4, gi, gj]
      refine regionK.intro 16 follows_mixed (by kernel_rfl) ?_
      simp -implicitDefEqProofs [g0, g1, g4, gi, gj, hij']
      exact ⟨by simp [g0], by simp [g1], by simp [g4], by simp [gi], by simp [gj], k1⟩
  clear hI
  rintro t hh ⟨g0, g1, g4, gi, gj, k1⟩
  simp -implicitDefEqProofs
  refine loopK.post (ScnD d.size cap a b1 12 13 sp g d3 P2 I J) (fun t => natOf (t 13)) (ScnM d.size cap a b1 12 13 sp g d3 I J) ?_ ?_ ?_
  · exact ⟨j, by simp [g0], by simp [g1], by simp [g4], by simp [gi], by simp [gj], by simp [k1], by omega, hJ⟩

  · clear g0 g1 g4 gi gj k1 hj1 hJ
    rintro t hh ⟨j, g0, g1, g4, gi, gj, k1, hj1, hJ⟩
    by_cases hij : I ≤ j
    · have hij' : (I : Int) ≤ (j : Int) := by omega
      rw [scanDown_step hij (by omega)] at hJ
      have hPy : P2 d3[j]! = !decide (cm d3[j]! d3[a]! < 0) := by rw [hP2]; rfl
      rw [hPy] at hJ
      obtain ⟨u1, u2⟩ := memV_at (d := d3) (sp := sp) (k := a) (by omega)
      obtain ⟨u3, u4⟩ := memV_at (d := d3) (sp := sp) (k := j) (by omega)
      have hx := hg d3[j]! d3[a]! (hq _ (by omega)) (hq _ (by omega))
      have y1 : a < d.size := by omega
      have y2 : j < d.size := by omega
      have y1' : (a : Int) < (d.size : Int) := by omega
      have y2' : (j : Int) < (d.size : Int) := by omega
      generalize hc1 : memV d3 sp = c1 at *
      clear hPy
      generalize d3[j]! = x at *
      generalize d3[a]! = y at *
      have hwk : IntKind.i64.wrap ((j : Int) - 1) = ((j - 1 : Nat) : Int) := by rw [w64 (by omega) (by omega)] <;> omega
      simp -implicitDefEqProofs [g0, g1, g4, gi, gj]
      refine regionK.intro 17 follows_mixed (by kernel_rfl) ?_
      simp -implicitDefEqProofs [g0, g1, g4, gi, gj, hij', y1, y2, y1', y2', k1, u1, u2, u3, u4, eV]
      refine CallQ.with hx (by simp [eV]) ?_
      by_cases hcm : cm x y < 0
      · simp [hcm] at hJ
        subst hJ
        simp -implicitDefEqProofs [hcm, gi, gj]
        exact ⟨by simp [g0], by simp [g1], by simp [g4], by simp [gi], by simp [gj], by rw [hc1]; exact k1⟩
      · simp -implicitDefEqProofs [hcm, gi, gj, hwk]
        exact ⟨⟨j - 1, by simp [g0], by simp [g1], by simp [g4], by simp [gi], by simp, by rw [hc1]; exact k1, by omega, by simpa [hcm] using hJ⟩, by omega⟩
    · have hij' : ¬ (I : Int) ≤ (j : Int) := by omega
      rw [scanDown_over hij] at hJ
      subst hJ
      simp -implicitDefEqProofs [g0, g1, g4, gi, gj]
      refine regionK.intro 17 follows_mixed (by kernel_rfl) ?_
      simp -implicitDefEqProofs [g0, g1, g4, gi, gj, hij']
      exact ⟨by simp [g0], by simp [g1], by simp [g4], by simp [gi], by simp [gj], k1⟩
  clear g0 g1 g4 gi gj k1 hJ
  rintro t hh ⟨g0, g1, g4, gi, gj, k1⟩
  clear hP hP2
  clear P P2
  by_cases hgt : J < I
  · have hgt' : (J : Int) < (I : Int) := by omega
    rw [if_pos hgt] at hE
    have z2 : J < d.size := by omega
    have z2' : (J : Int) < (d.size : Int) := by omega
    clear hc3
    subst hE
    obtain ⟨c2, ⟨q1, q2⟩, ⟨q3, q4⟩, s1, f2, s2⟩ := swapV (d := d3) (sp := sp) (i := J) (j := a) (by omega) (by omega)
    have hss : (Go.Sort.swp d3 (J) (a)).size = d.size := by rw [Go.Sort.swp_size, hs]
    have hqs := swp_allV (Q := Q) (d := d3) (i := J) (j := a) (by omega) (by omega) hq
    generalize hc1 : memV d3 sp = c1 at *
    generalize hsw : Go.Sort.swp d3 (J) (a) = d4 at *
    generalize hc4 : memV d4 sp = c4 at *
    generalize d3[J]! = x at *
    generalize d3[a]! = y at *
    simp -implicitDefEqProofs [gi, gj, hgt']
    refine regionK.modes [b1] [.r, .r, .q, .q, .r, .r, .r, .r, .q, .q, .q, .r, .r, .l, .r, .l] follows_mixed (by kernel_rfl) ?_
    simp -implicitDefEqProofs [g0, g1, g4, gi, gj, z1, z2, z1', z2', k1, q1, q2, q3, q4, s1, s2, f2, eV, Weak.refl]
  · have hgt' : ¬ (J : Int) < (I : Int) := by omega
    rw [if_neg hgt] at hE
    have hwi : IntKind.i64.wrap ((I : Int) + 1) = ((I + 1 : Nat) : Int) := by rw [w64 (by omega) (by omega)] <;> omega
    have hwj : IntKind.i64.wrap ((J : Int) - 1) = ((J - 1 : Nat) : Int) := by rw [w64 (by omega) (by omega)] <;> omega
    have z3 : I < d.size := by omega
    have z2 : J < d.size := by omega
    have z3' : (I : Int) < (d.size : Int) := by omega
    have z2' : (J : Int) < (d.size : Int) := by omega
    clear hc3
    obtain ⟨c2, ⟨q1, q2⟩, ⟨q3, q4⟩, s1, f2, s2⟩ := swapV (d := d3) (sp := sp) (i := I) (j := J) (by omega) (by omega)
    have hss : (Go.Sort.swp d3 (I) (J)).size = d.size := by rw [Go.Sort.swp_size, hs]
    have hqs := swp_allV (Q := Q) (d := d3) (i := I) (j := J) (by omega) (by omega) hq
    generalize hc1 : memV d3 sp = c1 at *
    generalize hsw : Go.Sort.swp d3 (I) (J) = d4 at *
    generalize hc4 : memV d4 sp = c4 at *
    generalize d3[I]! = x at *
    generalize d3[J]! = y at *
    generalize hD : Go.Sort.partLoop (ltV cm) a (I + 1) (J - 1) d4 = D at hE
    subst hE
    simp -implicitDefEqProofs [gi, gj, hgt']
    refine regionK.modes [b1] [.r, .r, .q, .q, .r, .r, .r, .r, .q, .q, .q, .r, .r, .l, .r, .l] follows_mixed (by kernel_rfl) ?_
    simp -implicitDefEqProofs [g0, g1, g4, gi, gj, z3, z2, z3', z2', k1, q1, q2, q3, q4, s1, s2, f2, eV, hwi, hwj]
    refine loopK.post (PtI cm Q d.size cap a b1 sp g D) (fun t => natOf (t 13) + 1 - natOf (t 12)) (PtM Q d.size cap a b1 sp D) ?_ ?_ ?_
    · exact ⟨I + 1, J - 1, d4, by simp [g0], by simp [g1], by simp [g4], by simp, by simp, by simp [hc4], hss, by omega, by omega, by omega, hD, hqs⟩
    · clear hD hqs hss hsw hc4 q1 q2 q3 q4 s1 s2 f2 z2 z3 z2' z3' hwi hwj hc1 g0 g1 g4 gi gj k1 hs hgt hgt' hI1 hI2 hJ1
      clear hq
      rintro t hh ⟨i, j, d2, g0, g1, g4, gi, gj, k1, hs, hi1, hi2, hj1, hD, hq⟩
      have hg1 := Go.Sort.partLoop_guard (ltV cm) a i j d2
      rw [Go.Sort.partLoop_eq] at hD
      obtain ⟨P, hP⟩ : ∃ P : PView → Bool, P = fun x => ltV cm x d2[a]! := ⟨_, rfl⟩
      obtain ⟨P2, hP2⟩ : ∃ P2 : PView → Bool, P2 = fun x => !ltV cm x d2[a]! := ⟨_, rfl⟩
      rw [← hP, ← hP2] at hD hg1
      obtain ⟨hI1, hI2⟩ := scanUp_in (P := P) (d := d2) hi2 hj1
      have hJ1 := Go.Sort.scanDown_le P2 d2 (Go.Sort.scanUp P d2 j i) j
      generalize hI : Go.Sort.scanUp P d2 j i = I at hD hI1 hI2 hJ1 hg1
      generalize hJ : Go.Sort.scanDown P2 d2 I j = J at hD hJ1 hg1
      have hm : natOf (t 13) + 1 - natOf (t 12) = j + 1 - i := by rw [gi, gj]; simp
      rw [hm]
      have ha0 : a < I := by omega
      simp -implicitDefEqProofs
      refine loopK.post (ScnU d.size cap a b1 12 13 sp g d2 P j I) (fun t => j + 1 - natOf (t 12)) (ScnM d.size cap a b1 12 13 sp g d2 I j) ?_ ?_ ?_
      · exact ⟨i, by simp [g0], by simp [g1], by simp [g4], by simp [gi], by simp [gj], by simp [k1], by omega, by omega, hI⟩

      · clear g0 g1 g4 gi gj k1 hi1 hi2 hI
        rintro t hh ⟨i, g0, g1, g4, gi, gj, k1, hi1, hi2, hI⟩
        by_cases hij : i ≤ j
        · have hij' : (i : Int) ≤ (j : Int) := by omega
          rw [scanUp_step hij] at hI
          have hPy : P d2[i]! = decide (cm d2[i]! d2[a]! < 0) := by rw [hP]; rfl
          rw [hPy] at hI
          obtain ⟨u1, u2⟩ := memV_at (d := d2) (sp := sp) (k := a) (by omega)
          obtain ⟨u3, u4⟩ := memV_at (d := d2) (sp := sp) (k := i) (by omega)
          have hx := hg d2[i]! d2[a]! (hq _ (by omega)) (hq _ (by omega))
          have y1 : a < d.size := by omega
          have y2 : i < d.size := by omega
          have y1' : (a : Int) < (d.size : Int) := by omega
          have y2' : (i : Int) < (d.size : Int) := by omega
          generalize hc1 : memV d2 sp = c1 at *
          clear hPy
          generalize d2[i]! = x at *
          generalize d2[a]! = y at *
          have hwk : IntKind.i64.wrap ((i : Int) + 1) = ((i + 1 : Nat) : Int) := by rw [w64 (by omega) (by omega)] <;> omega
          simp -implicitDefEqProofs [g0, g1, g4, gi, gj]
          refine regionK.intro 16 follows_mixed (by kernel_rfl) ?_
          simp -implicitDefEqProofs [g0, g1, g4, gi, gj, hij', y1, y2, y1', y2', k1, u1, u2, u3, u4, eV]
          refine CallQ.with hx (by simp [eV]) ?_
          by_cases hcm : cm x y < 0
          · simp -implicitDefEqProofs [hcm, gi, gj, hwk]
            exact ⟨⟨i + 1, by simp [g0], by simp [g1], by simp [g4], by simp, by simp [gj], by rw [hc1]; exact k1, by omega, by omega, by simpa [hcm] using hI⟩, by omega⟩
          · simp [hcm] at hI
            subst hI
            simp -implicitDefEqProofs [hcm, gi, gj]
            exact ⟨by simp [g0], by simp [g1], by simp [g4], by simp [gi], by simp [gj], by rw [hc1]; exact k1⟩
        · have hij' : ¬ (i : Int) ≤ (j : Int) := by omega
          rw [scanUp_over hij] at hI
          subst hI
          simp -implicitDefEqProofs [g0, g1, g4, gi, gj]
          refine regionK.intro 16 follows_mixed (by kernel_rfl) ?_
          simp -implicitDefEqProofs [g0, g1, g4, gi, gj, hij']
          exact ⟨by simp [g0], by simp [g1], by simp [g4], by simp [gi], by simp [gj], k1⟩
      clear g0 g1 g4 gi gj k1 hI
      rintro t hh ⟨g0, g1, g4, gi, gj, k1⟩
      simp -implicitDefEqProofs
      refine loopK.post (ScnD d.size cap a b1 12 13 sp g d2 P2 I J) (fun t => natOf (t 13)) (ScnM d.size cap a b1 12 13 sp g d2 I J) ?_ ?_ ?_
      · exact ⟨j, by simp [g0], by simp [g1], by simp [g4], by simp [gi], by simp [gj], by simp [k1], by omega, hJ⟩

      · clear g0 g1 g4 gi gj k1 hj1 hJ
        rintro t hh ⟨j, g0, g1, g4, gi, gj, k1, hj1, hJ⟩
        by_cases hij : I ≤ j
        · have hij' : (I : Int) ≤ (j : Int) := by omega
          rw [scanDown_step hij (by omega)] at hJ
          have hPy : P2 d2[j]! = !decide (cm d2[j]! d2[a]! < 0) := by rw [hP2]; rfl
          rw [hPy] at hJ
          obtain ⟨u1, u2⟩ := memV_at (d := d2) (sp := sp) (k := a) (by omega)
          obtain ⟨u3, u4⟩ := memV_at (d := d2) (sp := sp) (k := j) (by omega)
          have hx := hg d2[j]! d2[a]! (hq _ (by omega)) (hq _ (by omega))
          have y1 : a < d.size := by omega
          have y2 : j < d.size := by omega
          have y1' : (a : Int) < (d.size : Int) := by omega
          have y2' : (j : Int) < (d.size : Int) := by omega
          generalize hc1 : memV d2 sp = c1 at *
          clear hPy
          generalize d2[j]! = x at *
          generalize d2[a]! = y at *
          have hwk : IntKind.i64.wrap ((j : Int) - 1) = ((j - 1 : Nat) : Int) := by rw [w64 (by omega) (by omega)] <;> omega
          simp -implicitDefEqProofs [g0, g1, g4, gi, gj]
          refine regionK.intro 17 follows_mixed (by kernel_rfl) ?_
          simp -implicitDefEqProofs [g0, g1, g4, gi, gj, hij', y1, y2, y1', y2', k1, u1, u2, u3, u4, eV]
          refine CallQ.with hx (by simp [eV]) ?_
          by_cases hcm : cm x y < 0
          · simp [hcm] at hJ
            subst hJ
            simp -implicitDefEqProofs [hcm, gi, gj]
            exact ⟨by simp [g0], by simp [g1], by simp [g4], by simp [gi], by simp [gj], by rw [hc1]; exact k1⟩
          · simp -implicitDefEqProofs [hcm, gi, gj, hwk]
            exact ⟨⟨j - 1, by simp [g0], by simp [g1], by simp [g4], by simp [gi], by simp, by rw [hc1]; exact k1, by omega, by simpa [hcm] using hJ⟩, by omega⟩
        · have hij' : ¬ (I : Int) ≤ (j : Int) := by omega
          rw [scanDown_over hij] at hJ
          subst hJ
          simp -implicitDefEqProofs [g0, g1, g4, gi, gj]
          refine regionK.intro 17 follows_mixed (by kernel_rfl) ?_
          simp -implicitDefEqProofs [g0, g1, g4, gi, gj, hij']
          exact ⟨by simp [g0], by simp [g1], by simp [g4], by simp [gi], by simp [gj], k1⟩
      clear g0 g1 g4 gi gj k1 hJ
      rintro t hh ⟨g0, g1, g4, gi, gj, k1⟩
      by_cases hgt : J < I
      · have hgt' : (J : Int) < (I : Int) := by omega
        rw [if_pos hgt] at hD
        subst hD
        simp -implicitDefEqProofs [gi, gj, hgt']
        exact ⟨by simp [g0], by simp [g1], by simp [gj], by simp [k1], hs, by omega, hq⟩
      · have hgt' : ¬ (J : Int) < (I : Int) := by omega
        rw [if_neg hgt] at hD
        have hg1 := hg1 hgt
        have hwi : IntKind.i64.wrap ((I : Int) + 1) = ((I + 1 : Nat) : Int) := by rw [w64 (by omega) (by omega)] <;> omega
        have hwj : IntKind.i64.wrap ((J : Int) - 1) = ((J - 1 : Nat) : Int) := by rw [w64 (by omega) (by omega)] <;> omega
        have z1 : I < d.size := by omega
        have z2 : J < d.size := by omega
        have z1' : (I : Int) < (d.size : Int) := by omega
        have z2' : (J : Int) < (d.size : Int) := by omega
        clear hP hP2
        obtain ⟨c2, ⟨q1, q2⟩, ⟨q3, q4⟩, s1, f2, s2⟩ := swapV (d := d2) (sp := sp) (i := I) (j := J) (by omega) (by omega)
        have hss : (Go.Sort.swp d2 (I) (J)).size = d.size := by rw [Go.Sort.swp_size, hs]
        have hqs := swp_allV (Q := Q) (d := d2) (i := I) (j := J) (by omega) (by omega) hq
        generalize hc1 : memV d2 sp = c1 at *
        generalize hsw : Go.Sort.swp d2 (I) (J) = d3 at *
        generalize hc3 : memV d3 sp = c3 at *
        generalize d2[I]! = x at *
        generalize d2[J]! = y at *
        simp -implicitDefEqProofs [gi, gj, hgt']
        refine regionK.modes [b1] [.r, .r, .q, .q, .r, .r, .r, .r, .q, .q, .q, .r, .r, .l, .r, .l] follows_mixed (by kernel_rfl) ?_
        simp -implicitDefEqProofs [g0, g1, g4, gi, gj, z1, z2, z1', z2', k1, q1, q2, q3, q4, s1, s2, f2, eV, hwi, hwj]
        exact ⟨⟨I + 1, J - 1, d3, by simp [g0], by simp [g1], by simp [g4], by simp, by simp, by simp [hc3], hss, by omega, by omega, by omega, hD, hqs⟩, by omega⟩
    · clear g0 g1 g4 gi gj k1 hs
      rintro t hh ⟨g0, g1, gj, k1, hs, hD1, hqD⟩
      obtain ⟨J2, d5⟩ := D
      simp only at *
      have y2 : J2 < d.size := by omega
      have y2' : (J2 : Int) < (d.size : Int) := by omega
      clear q1 q2 q3 q4 s1 s2 f2 hsw hc4 hc1 hss hqs hD hq
      have hq := hqD
      obtain ⟨c2, ⟨q1, q2⟩, ⟨q3, q4⟩, s1, f2, s2⟩ := swapV (d := d5) (sp := sp) (i := J2) (j := a) (by omega) (by omega)
      have hss : (Go.Sort.swp d5 (J2) (a)).size = d.size := by rw [Go.Sort.swp_size, hs]
      have hqs := swp_allV (Q := Q) (d := d5) (i := J2) (j := a) (by omega) (by omega) hq
      generalize hc1 : memV d5 sp = c1 at *
      generalize hsw : Go.Sort.swp d5 (J2) (a) = d6 at *
      generalize hc6 : memV d6 sp = c6 at *
      generalize d5[J2]! = x at *
      generalize d5[a]! = y at *
      simp -implicitDefEqProofs [g0, g1, gj]
      refine regionK.modes [b1] [.r, .r, .q, .q, .r, .r, .r, .r, .q, .q, .q, .r, .r, .l, .r, .l] follows_mixed (by kernel_rfl) ?_
      simp -implicitDefEqProofs [g0, g1, gj, z1, y2, z1', y2', k1, q1, q2, q3, q4, s1, s2, f2, eV, Weak.refl]
end Go.Proofs.YtjbbfiagijjdoaaGreat

/- Contracts: heaps and nearly sorted views in memory of one's own. No condition. Printed by sort/v5.py. -/
set_option linter.unusedSimpArgs false
set_option linter.unusedVariables false
set_option maxRecDepth 10000
namespace Go.Proofs.YtjbbfiagijjdoaaGreat
open Go Go.Rw Go.Proofs
-- a goal is never to be run by the elaborator
attribute [local irreducible] awp aops aop aopsE aeff

theorem siftDown_all {cm : PView → PView → Int} {Q : PView → Prop} {hi first : Nat} : ∀ (n root : Nat) (d : Array PView), hi - root ≤ n → first + hi ≤ d.size → root < hi → (∀ k < d.size, Q d[k]!) → (Go.Sort.siftDown (ltV cm) hi first root d).size = d.size ∧ ∀ k < d.size, Q (Go.Sort.siftDown (ltV cm) hi first root d)[k]! := by
  intro n
  induction n with
  | zero => intro root d h1 h2 h3; omega
  | succ n ih =>
    intro root d h1 h2 h3 hq
    by_cases h : 2 * root + 1 < hi
    · obtain ⟨ch, hc⟩ : ∃ ch, ch = if 2 * root + 2 < hi && ltV cm d[first + (2 * root + 1)]! d[first + (2 * root + 2)]! then 2 * root + 2 else 2 * root + 1 := ⟨_, rfl⟩
      rw [siftDown_go h hc]
      have hch : root < ch ∧ ch < hi := by
        by_cases h5 : (2 * root + 2 < hi && ltV cm d[first + (2 * root + 1)]! d[first + (2 * root + 2)]!) = true
        · rw [if_pos h5] at hc; simp at h5; omega
        · rw [if_neg h5] at hc; omega
      split
      · have hs := Go.Sort.swp_size d (first + root) (first + ch)
        have := ih ch (Go.Sort.swp d (first + root) (first + ch)) (by omega) (by omega) hch.2 (swp_allV (by omega) (by omega) hq)
        rw [hs] at this
        exact this
      · exact ⟨rfl, hq⟩
    · rw [siftDown_stop h]
      exact ⟨rfl, hq⟩
def upN (x : AV) : Nat := match x with | .v (.int _ n) => (n + 1).toNat | _ => 0
@[simp] theorem upN_int (k : IntKind) (n : Int) : upN (.v (.int k n)) = (n + 1).toNat := rfl
def HpI (cm : PView → PView → Int) (Q : PView → Prop) (n cap a hi b1 : Nat) (sp : List AV) (g : FuncId) (D : Array PView) (t : Nat → AV) (h : Nat → Option (List AV)) : Prop := ∃ (k : Nat) (d : Array PView), t 0 = .sm b1 0 n cap ∧ t 3 = .fn g [] ∧ t 8 = eI a ∧ t 9 = eI 0 ∧ t 10 = eI hi ∧ t 11 = eI ((k : Int) - 1) ∧ h b1 = some (memV d sp) ∧ d.size = n ∧ k ≤ hi ∧ Go.Sort.heapBuild (ltV cm) hi a k d = D ∧ ∀ k < d.size, Q d[k]!
def HpM (Q : PView → Prop) (n cap a hi b1 : Nat) (sp : List AV) (g : FuncId) (d : Array PView) (t : Nat → AV) (h : Nat → Option (List AV)) : Prop := t 0 = .sm b1 0 n cap ∧ t 3 = .fn g [] ∧ t 8 = eI a ∧ t 9 = eI 0 ∧ t 10 = eI hi ∧ h b1 = some (memV d sp) ∧ d.size = n ∧ ∀ k < d.size, Q d[k]!
def HpJ (cm : PView → PView → Int) (Q : PView → Prop) (n cap a hi b1 : Nat) (sp : List AV) (g : FuncId) (D : Array PView) (t : Nat → AV) (h : Nat → Option (List AV)) : Prop := ∃ (k : Nat) (d : Array PView), t 0 = .sm b1 0 n cap ∧ t 3 = .fn g [] ∧ t 8 = eI a ∧ t 9 = eI 0 ∧ t 12 = eI ((k : Int) - 1) ∧ h b1 = some (memV d sp) ∧ d.size = n ∧ k ≤ hi ∧ Go.Sort.heapPop (ltV cm) a k d = D ∧ ∀ k < d.size, Q d[k]!
theorem heapV (cm : PView → PView → Int) (Q : PView → Prop) (g : FuncId) (hg : ∀ x y, Q x → Q y → ASpec Tryz.prog g [.agg (eV x), .agg (eV y)] (· = eI (cm x y))) (d : Array PView) (hq : ∀ k < d.size, Q d[k]!) (sp : List AV) (b1 cap a b : Nat) (hab : a + 2 ≤ b) (hb : b ≤ d.size) (hl : d.size ≤ 1000000000) :
    MSpec Tryz.prog 178 [.sm b1 0 d.size cap, eI a, eI b, .fn g []] (one b1 (memV d sp)) (fun r h' => h' = one b1 (memV (Go.Sort.heapSort (ltV cm) d a b) sp)) := by
  refine MSpec.of_awp Tryz.func178 (by kernel_rfl) rfl (by rw [Tryz.results178]) Tryz.ntmps178 ?_
  have hw1 : IntKind.i64.wrap ((b : Int) - (a : Int)) = ((b - a : Nat) : Int) := by rw [w64 (by omega) (by omega)] <;> omega
  unfold Go.Sort.heapSort
  obtain ⟨hi, hhi⟩ : ∃ hi, hi = b - a := ⟨_, rfl⟩
  rw [← hhi] at hw1 ⊢
  have hw2 : IntKind.i64.wrap ((hi : Int) - 1) = (hi : Int) - 1 := by rw [w64 (by omega) (by omega)]
  have hw3 : IntKind.i64.wrap (((hi : Int) - 1).tdiv 2) = (((hi - 1) / 2 + 1 : Nat) : Int) - 1 := by rw [Int.tdiv_eq_ediv_of_nonneg (by omega), w64 (by omega) (by omega)] <;> omega
  have hw4 : IntKind.i64.wrap (((hi : Int) - 1) / 2) = (((hi - 1) / 2 + 1 : Nat) : Int) - 1 := by rw [w64 (by omega) (by omega)] <;> omega
  have hkh : (hi - 1) / 2 + 1 ≤ hi := by omega
  generalize (hi - 1) / 2 + 1 = k0 at *
  generalize hD1 : Go.Sort.heapBuild (ltV cm) hi a k0 d = D1
  generalize hD : Go.Sort.heapPop (ltV cm) a hi D1 = D2
  have hfh : a + hi ≤ d.size := by omega
  simp -implicitDefEqProofs [hw1, hw2, hw3, hw4]
  refine loopK.post (HpI cm Q d.size cap a hi b1 sp g D1) (fun t => upN (t 11)) (HpM Q d.size cap a hi b1 sp g D1) ?_ ?_ ?_
  · exact ⟨k0, d, by simp, by simp, by simp, by simp, by simp, by simp, by simp, rfl, hkh, hD1, hq⟩
  · clear hq hD1 hD
    rintro t hh ⟨k, d2, g0, g3, g8, g9, g10, g11, k1, hs, hk, hE, hq⟩
    cases k with
    | zero =>
      simp only [Go.Sort.heapBuild] at hE
      subst hE
      have hng : ¬ (0 : Int) ≤ ((0 : Nat) : Int) - 1 := by omega
      simp -implicitDefEqProofs [g11]
      exact ⟨by simp [g0], by simp [g3], by simp [g8], by simp [g9], by simp [g10], by simp [k1], hs, hq⟩
    | succ k =>
      have e11 : ((k + 1 : Nat) : Int) - 1 = (k : Int) := by omega
      rw [e11] at g11
      have hwk : IntKind.i64.wrap ((k : Int) - 1) = (k : Int) - 1 := by rw [w64 (by omega) (by omega)]
      rw [Go.Sort.heapBuild] at hE
      obtain ⟨hs2, hq2⟩ := siftDown_all (cm := cm) (Q := Q) (hi := hi) (first := a) _ k d2 (Nat.le_refl _) (by omega) (by omega) hq
      have hcall := siftV cm Q g hg d2 hq sp b1 cap k hi a (by omega) (by omega) (by omega)
      rw [hs] at hcall hs2 hq2
      generalize Go.Sort.siftDown (ltV cm) hi a k d2 = d3 at *
      simp -implicitDefEqProofs [g0, g3, g8, g9, g10, g11]
      refine CallK.mh hcall (by simp) (SubH_one.2 (by simp [k1, Weak.refl])) ?_
      rintro r h' H rfl - hH -
      have k2 := hH b1 _ (one_self _ _)
      simp -implicitDefEqProofs [g11, hwk]
      exact ⟨k, d3, by simp [g0], by simp [g3], by simp [g8], by simp [g9], by simp [g10], by simp, by simpa using k2, hs2, by omega, hE, by rw [hs2]; exact hq2⟩
  · rintro t hh ⟨g0, g3, g8, g9, g10, k1, hs, hq⟩
    simp -implicitDefEqProofs [g10, hw2]
    refine loopK.intro (HpJ cm Q d.size cap a hi b1 sp g D2) (fun t => upN (t 12)) ?_ ?_
    · exact ⟨hi, D1, by simp [g0], by simp [g3], by simp [g8], by simp [g9], by simp, by simp [k1], hs, by omega, hD, hq⟩
    · clear g0 g3 g8 g9 g10 k1 hs hq hD hD1
      rintro t hh ⟨k, d2, g0, g3, g8, g9, g12, k1, hs, hk, hE, hq⟩
      cases k with
      | zero =>
        simp only [Go.Sort.heapPop] at hE
        subst hE
        simp -implicitDefEqProofs [g12, k1, Weak.refl]
      | succ k =>
        have e11 : ((k + 1 : Nat) : Int) - 1 = (k : Int) := by omega
        rw [e11] at g12
        have hwk : IntKind.i64.wrap ((k : Int) - 1) = (k : Int) - 1 := by rw [w64 (by omega) (by omega)]
        have hwa : IntKind.i64.wrap ((a : Int) + (k : Int)) = ((a + k : Nat) : Int) := by rw [w64 (by omega) (by omega)] <;> omega
        rw [Go.Sort.heapPop] at hE
        have z1 : a < d.size := by omega
        have z2 : a + k < d.size := by omega
        have z1' : (a : Int) < (d.size : Int) := by omega
        obtain ⟨c2, ⟨q1, q2⟩, ⟨q3, q4⟩, s1, f2, s2⟩ := swapV (d := d2) (sp := sp) (i := a) (j := a + k) (by omega) (by omega)
        have hss : (Go.Sort.swp d2 (a) (a + k)).size = d.size := by rw [Go.Sort.swp_size, hs]
        have hqs := swp_allV (Q := Q) (d := d2) (i := a) (j := a + k) (by omega) (by omega) hq
        generalize hc1 : memV d2 sp = c1 at *
        generalize hsw : Go.Sort.swp d2 (a) (a + k) = d3 at *
        generalize hc3 : memV d3 sp = c3 at *
        generalize d2[a]! = x at *
        generalize d2[a + k]! = y at *
        generalize hp : a + k = p at *
        have z2' : (p : Int) < (d.size : Int) := by omega
        have hcall := siftV cm Q g hg d3 hqs sp b1 cap 0 k a (by omega) (by omega) (by omega)
        have hall : (Go.Sort.siftDown (ltV cm) k a 0 d3).size = d3.size ∧ ∀ j < d3.size, Q (Go.Sort.siftDown (ltV cm) k a 0 d3)[j]! := by
          by_cases h0 : 0 < k
          · exact siftDown_all _ 0 d3 (Nat.le_refl _) (by omega) h0 hqs
          · rw [siftDown_stop (by omega)]; exact ⟨rfl, hqs⟩
        obtain ⟨hs2, hq2⟩ := hall
        rw [hss] at hcall hs2 hq2
        rw [hc3] at hcall
        generalize Go.Sort.siftDown (ltV cm) k a 0 d3 = d4 at *
        simp -implicitDefEqProofs [g12]
        refine regionK.modes [b1] [.r, .r, .q, .q, .q, .q, .r, .r, .r, .r, .r, .r, .q, .q, .q, .r, .r, .l, .r, .l] follows_mixed (by kernel_rfl) ?_
        simp -implicitDefEqProofs [g0, g3, g8, g9, g12, hwa, z1, z2, z1', z2', k1, q1, q2, q3, q4, s1, s2, f2, eV]
        refine CallK.mh hcall (by simp) (SubH_one.2 (by simp [Weak.refl])) ?_
        rintro r h' H rfl - hH -
        have k2 := hH b1 _ (one_self _ _)
        simp -implicitDefEqProofs [g12, hwk]
        exact ⟨k, d4, by simp [g0], by simp [g3], by simp [g8], by simp [g9], by simp, by simpa using k2, hs2, by omega, hE, by rw [hs2]; exact hq2⟩

theorem shiftDown_go {cm : PView → PView → Int} {d : Array PView} {j : Nat} (h : 1 ≤ j) : Go.Sort.shiftDown (ltV cm) j d = if ltV cm d[j]! d[j - 1]! then Go.Sort.shiftDown (ltV cm) (j - 1) (Go.Sort.swp d j (j - 1)) else d := by
  cases j with
  | zero => omega
  | succ j => rw [Go.Sort.shiftDown]; simp only [Nat.add_sub_cancel]; cases ltV cm d[j + 1]! d[j]! <;> simp
theorem shiftDown_stop {cm : PView → PView → Int} {d : Array PView} {j : Nat} (h : ¬ 1 ≤ j) : Go.Sort.shiftDown (ltV cm) j d = d := by
  obtain rfl : j = 0 := by omega
  rfl
theorem shiftUp_go {cm : PView → PView → Int} {d : Array PView} {b j : Nat} (h : j < b) : Go.Sort.shiftUp (ltV cm) b j d = if ltV cm d[j]! d[j - 1]! then Go.Sort.shiftUp (ltV cm) b (j + 1) (Go.Sort.swp d j (j - 1)) else d := by
  rw [Go.Sort.shiftUp, if_pos h]; cases ltV cm d[j]! d[j - 1]! <;> simp
theorem shiftUp_stop {cm : PView → PView → Int} {d : Array PView} {b j : Nat} (h : ¬ j < b) : Go.Sort.shiftUp (ltV cm) b j d = d := by
  rw [Go.Sort.shiftUp, if_neg h]
theorem scanSorted_go {cm : PView → PView → Int} {d : Array PView} {b i : Nat} (h : i < b) : Go.Sort.scanSorted (ltV cm) d b i = if ltV cm d[i]! d[i - 1]! then i else Go.Sort.scanSorted (ltV cm) d b (i + 1) := by
  rw [Go.Sort.scanSorted]; cases ltV cm d[i]! d[i - 1]! <;> simp [h]
theorem scanSorted_stop {cm : PView → PView → Int} {d : Array PView} {b i : Nat} (h : ¬ i < b) : Go.Sort.scanSorted (ltV cm) d b i = i := by
  rw [Go.Sort.scanSorted]; simp [h]
theorem scanSorted_in {cm : PView → PView → Int} {d : Array PView} {b : Nat} : ∀ (n i : Nat), b - i ≤ n → i ≤ b → i ≤ Go.Sort.scanSorted (ltV cm) d b i ∧ Go.Sort.scanSorted (ltV cm) d b i ≤ b := by
  intro n
  induction n with
  | zero => intro i h1 h2; rw [scanSorted_stop (by omega)]; omega
  | succ n ih =>
    intro i h1 h2
    by_cases h : i < b
    · rw [scanSorted_go h]
      split
      · omega
      · have := ih (i + 1) (by omega) (by omega); omega
    · rw [scanSorted_stop h]; omega
def SsI (cm : PView → PView → Int) (n cap a b q b1 : Nat) (sp : List AV) (g : FuncId) (d : Array PView) (I : Nat) (t : Nat → AV) (h : Nat → Option (List AV)) : Prop := ∃ i : Nat, t 0 = .sm b1 0 n cap ∧ t 1 = eI a ∧ t 2 = eI b ∧ t 3 = .fn g [] ∧ t 9 = eI i ∧ t 10 = eI q ∧ h b1 = some (memV d sp) ∧ a + 1 ≤ i ∧ i ≤ b ∧ Go.Sort.scanSorted (ltV cm) d b i = I
def SsM (n cap a b q b1 : Nat) (sp : List AV) (g : FuncId) (d : Array PView) (I : Nat) (t : Nat → AV) (h : Nat → Option (List AV)) : Prop := t 0 = .sm b1 0 n cap ∧ t 1 = eI a ∧ t 2 = eI b ∧ t 3 = .fn g [] ∧ t 9 = eI I ∧ t 10 = eI q ∧ h b1 = some (memV d sp)
def ShD (cm : PView → PView → Int) (Q : PView → Prop) (n cap a b I b1 : Nat) (sp : List AV) (g : FuncId) (q : Nat) (D : Array PView) (t : Nat → AV) (h : Nat → Option (List AV)) : Prop := ∃ (j : Nat) (d : Array PView), t 0 = .sm b1 0 n cap ∧ t 1 = eI a ∧ t 2 = eI b ∧ t 3 = .fn g [] ∧ t 9 = eI I ∧ t 10 = eI q ∧ t 11 = eI j ∧ h b1 = some (memV d sp) ∧ d.size = n ∧ j < n ∧ 0 ≤ j ∧ Go.Sort.shiftDown (ltV cm) j d = D ∧ ∀ k < d.size, Q d[k]!
def ShU (cm : PView → PView → Int) (Q : PView → Prop) (n cap a b I b1 : Nat) (sp : List AV) (g : FuncId) (q : Nat) (D : Array PView) (t : Nat → AV) (h : Nat → Option (List AV)) : Prop := ∃ (j : Nat) (d : Array PView), t 0 = .sm b1 0 n cap ∧ t 1 = eI a ∧ t 2 = eI b ∧ t 3 = .fn g [] ∧ t 9 = eI I ∧ t 10 = eI q ∧ t 12 = eI j ∧ h b1 = some (memV d sp) ∧ d.size = n ∧ j ≤ n ∧ 1 ≤ j ∧ Go.Sort.shiftUp (ltV cm) b j d = D ∧ ∀ k < d.size, Q d[k]!
def ShM (Q : PView → Prop) (n cap a b I b1 : Nat) (sp : List AV) (g : FuncId) (q : Nat) (D : Array PView) (t : Nat → AV) (h : Nat → Option (List AV)) : Prop := ∃ d : Array PView, t 0 = .sm b1 0 n cap ∧ t 1 = eI a ∧ t 2 = eI b ∧ t 3 = .fn g [] ∧ t 9 = eI I ∧ t 10 = eI q ∧ h b1 = some (memV d sp) ∧ d.size = n ∧ d = D ∧ ∀ k < d.size, Q d[k]!
def PaI (cm : PView → PView → Int) (Q : PView → Prop) (n cap a b b1 : Nat) (sp : List AV) (g : FuncId) (D : Array PView × Bool) (t : Nat → AV) (h : Nat → Option (List AV)) : Prop := ∃ (s q i : Nat) (d : Array PView), t 0 = .sm b1 0 n cap ∧ t 1 = eI a ∧ t 2 = eI b ∧ t 3 = .fn g [] ∧ t 9 = eI i ∧ t 10 = eI q ∧ h b1 = some (memV d sp) ∧ d.size = n ∧ a + 1 ≤ i ∧ i ≤ b ∧ q + s = 5 ∧ Go.Sort.partialIns (ltV cm) a b s i d = D ∧ ∀ k < d.size, Q d[k]!
theorem partialV (cm : PView → PView → Int) (Q : PView → Prop) (g : FuncId) (hg : ∀ x y, Q x → Q y → ASpec Tryz.prog g [.agg (eV x), .agg (eV y)] (· = eI (cm x y))) (d : Array PView) (hq : ∀ k < d.size, Q d[k]!) (sp : List AV) (b1 cap a b : Nat) (hab : a + 2 ≤ b) (hb : b ≤ d.size) (hl : d.size ≤ 1000000000) :
    MSpec Tryz.prog 182 [.sm b1 0 d.size cap, eI a, eI b, .fn g []] (one b1 (memV d sp)) (fun r h' => r = .v (.bool (Go.Sort.partialInsertionSort (ltV cm) d a b).2) ∧ h' = one b1 (memV (Go.Sort.partialInsertionSort (ltV cm) d a b).1 sp)) := by
  refine MSpec.of_awp Tryz.func182 (by kernel_rfl) rfl (by rw [Tryz.results182]) Tryz.ntmps182 ?_
  have hwa : IntKind.i64.wrap ((a : Int) + 1) = ((a + 1 : Nat) : Int) := by rw [w64 (by omega) (by omega)] <;> omega
  unfold Go.Sort.partialInsertionSort
  simp -implicitDefEqProofs [hwa]
  refine loopK.intro (PaI cm Q d.size cap a b b1 sp g (Go.Sort.partialIns (ltV cm) a b 5 (a + 1) d)) (fun t => 5 - natOf (t 10)) ?_ ?_
  · exact ⟨5, 0, a + 1, d, by simp, by simp, by simp, by simp, by simp, by simp, by simp, rfl, by omega, by omega, by omega, rfl, hq⟩
  generalize Go.Sort.partialIns (ltV cm) a b 5 (a + 1) d = D
  clear hq
  rintro t hh ⟨s, q, i, d2, g0, g1, g2, g3, g9, g10, k1, hs, hi1, hi2, hqe, hE, hq⟩
  cases s with
  | zero =>
    rw [Go.Sort.partialIns] at hE
    subst hE
    obtain rfl : q = 5 := by omega
    simp -implicitDefEqProofs [g10, k1, Weak.refl]
  | succ s =>
    have hq5 : (q : Int) < 5 := by omega
    have hwq : IntKind.i64.wrap ((q : Int) + 1) = ((q + 1 : Nat) : Int) := by rw [w64 (by omega) (by omega)] <;> omega
    have hm10 : natOf (t 10) = q := by rw [g10]; simp
    rw [hm10]
    rw [Go.Sort.partialIns] at hE
    obtain ⟨hI1, hI2⟩ := scanSorted_in (cm := cm) (d := d2) (b := b) _ i (Nat.le_refl _) hi2
    generalize hI : Go.Sort.scanSorted (ltV cm) d2 b i = I at hE hI1 hI2
    simp -implicitDefEqProofs [g10, hq5]
    refine loopK.post (SsI cm d.size cap a b q b1 sp g d2 I) (fun t => b - natOf (t 9)) (SsM d.size cap a b q b1 sp g d2 I) ?_ ?_ ?_
    · exact ⟨i, by simp [g0], by simp [g1], by simp [g2], by simp [g3], by simp [g9], by simp [g10], by simp [k1], hi1, hi2, hI⟩
    · clear g0 g1 g2 g3 g9 g10 k1 hi1 hi2 hI hE hI1 hI2 hm10
      rintro t hh ⟨i, g0, g1, g2, g3, g9, g10, k1, hi1, hi2, hI⟩
      by_cases hib : i < b
      · have hib' : (i : Int) < (b : Int) := by omega
        obtain ⟨m, hm⟩ : ∃ m, m = i - 1 := ⟨_, rfl⟩
        have hw1 : IntKind.i64.wrap ((i : Int) - 1) = (m : Int) := by rw [w64 (by omega) (by omega)] <;> omega
        have hwi : IntKind.i64.wrap ((i : Int) + 1) = ((i + 1 : Nat) : Int) := by rw [w64 (by omega) (by omega)] <;> omega
        obtain ⟨u1, u2⟩ := memV_at (d := d2) (sp := sp) (k := i) (by omega)
        obtain ⟨u3, u4⟩ := memV_at (d := d2) (sp := sp) (k := m) (by omega)
        have hx := hg d2[i]! d2[m]! (hq _ (by omega)) (hq _ (by omega))
        have hlx : ltV cm d2[i]! d2[m]! = decide (cm d2[i]! d2[m]! < 0) := rfl
        have y1 : i < d.size := by omega
        have y2 : m < d.size := by omega
        have y1' : (i : Int) < (d.size : Int) := by omega
        have y2' : (m : Int) < (d.size : Int) := by omega
        rw [scanSorted_go hib, ← hm, hlx] at hI
        generalize hc1 : memV d2 sp = c1 at *
        generalize d2[i]! = x at *
        generalize d2[m]! = y at *
        simp -implicitDefEqProofs
        refine regionK.intro 18 follows_mixed (by kernel_rfl) ?_
        simp -implicitDefEqProofs [g0, g2, g3, g9, hib', hw1, y1, y2, y1', y2', k1, u1, u2, u3, u4, eV]
        refine CallQ.with hx (by simp [eV]) ?_
        by_cases hcm : cm x y < 0
        · simp [hcm] at hI
          subst hI
          simp -implicitDefEqProofs [hcm]
          exact ⟨by simp [g0], by simp [g1], by simp [g2], by simp [g3], by simp [g9], by simp [g10], by rw [hc1]; exact k1⟩
        · simp [hcm] at hI
          simp -implicitDefEqProofs [hcm, g9, hwi]
          exact ⟨⟨i + 1, by simp [g0], by simp [g1], by simp [g2], by simp [g3], by simp, by simp [g10], by rw [hc1]; exact k1, by omega, by omega, hI⟩, by omega⟩
      · have hib' : ¬ (i : Int) < (b : Int) := by omega
        rw [scanSorted_stop hib] at hI
        subst hI
        simp -implicitDefEqProofs
        refine regionK.intro 18 follows_mixed (by kernel_rfl) ?_
        simp -implicitDefEqProofs [g0, g2, g3, g9, hib']
        exact ⟨by simp [g0], by simp [g1], by simp [g2], by simp [g3], by simp [g9], by simp [g10], k1⟩
    clear g0 g1 g2 g3 g9 g10 k1 hI hm10
    rintro t hh ⟨g0, g1, g2, g3, g9, g10, k1⟩
    by_cases hIb : I = b
    · rw [if_pos hIb] at hE
      subst hE
      have hIb' : (I : Int) = (b : Int) := by omega
      simp -implicitDefEqProofs [g2, g9, hIb', k1, Weak.refl]
    · have hIb' : ¬ (I : Int) = (b : Int) := by omega
      rw [if_neg hIb] at hE
      have hwba : IntKind.i64.wrap ((b : Int) - (a : Int)) = ((b - a : Nat) : Int) := by rw [w64 (by omega) (by omega)] <;> omega
      by_cases h50 : b - a < 50
      · rw [if_pos h50] at hE
        subst hE
        have h50' : ((b - a : Nat) : Int) < 50 := by omega
        simp -implicitDefEqProofs [g1, g2, g9, hIb', hwba, h50', k1, Weak.refl]
      · have h50' : ¬ ((b - a : Nat) : Int) < 50 := by omega
        rw [if_neg h50] at hE
        obtain ⟨m, hm⟩ : ∃ m, m = I - 1 := ⟨_, rfl⟩
        have hw1 : IntKind.i64.wrap ((I : Int) - 1) = (m : Int) := by rw [w64 (by omega) (by omega)] <;> omega
        have hwI : IntKind.i64.wrap ((I : Int) + 1) = ((I + 1 : Nat) : Int) := by rw [w64 (by omega) (by omega)] <;> omega
        have hwia : IntKind.i64.wrap ((I : Int) - (a : Int)) = ((I - a : Nat) : Int) := by rw [w64 (by omega) (by omega)] <;> omega
        have hwbi : IntKind.i64.wrap ((b : Int) - (I : Int)) = ((b - I : Nat) : Int) := by rw [w64 (by omega) (by omega)] <;> omega
        have y1 : I < d.size := by omega
        have y2 : m < d.size := by omega
        have y1' : (I : Int) < (d.size : Int) := by omega
        have y2' : (m : Int) < (d.size : Int) := by omega
        rw [← hm] at hE
        simp only at hE
        obtain ⟨c2, ⟨q1, q2⟩, ⟨q3, q4⟩, s1, f2, s2⟩ := swapV (d := d2) (sp := sp) (i := I) (j := m) (by omega) (by omega)
        have hss : (Go.Sort.swp d2 (I) (m)).size = d.size := by rw [Go.Sort.swp_size, hs]
        have hqs := swp_allV (Q := Q) (d := d2) (i := I) (j := m) (by omega) (by omega) hq
        generalize hc1 : memV d2 sp = c1 at *
        generalize hsw : Go.Sort.swp d2 (I) (m) = d3 at *
        generalize hc3 : memV d3 sp = c3 at *
        generalize d2[I]! = x at *
        generalize d2[m]! = y at *
        simp -implicitDefEqProofs [g1, g2, g9, hIb', hwba, h50']
        refine regionK.modes [b1] [.r, .r, .q, .q, .q, .r, .r, .r, .r, .r, .q, .q, .q, .r, .r, .l, .r, .l] follows_mixed (by kernel_rfl) ?_
        have e2 : decide ((2 : Int) ≤ ((I - a : Nat) : Int)) = decide (2 ≤ I - a) := by by_cases h : 2 ≤ I - a <;> simp [h] <;> omega
        have e3 : decide ((2 : Int) ≤ ((b - I : Nat) : Int)) = decide (2 ≤ b - I) := by by_cases h : 2 ≤ b - I <;> simp [h] <;> omega
        simp -implicitDefEqProofs [g0, g1, g2, g3, g9, hw1, y1, y2, y1', y2', k1, q1, q2, q3, q4, s1, s2, f2, eV, hwia, e2]
        obtain ⟨DD, hDD⟩ : ∃ DD, DD = if I - a ≥ 2 then Go.Sort.shiftDown (ltV cm) m d3 else d3 := ⟨_, rfl⟩
        rw [← hDD] at hE
        refine branch_join (ShM Q d.size cap a b I b1 sp g q DD) (fun hb2 => ?_) (fun hb2 => ?_) ?_
        · have h2 : I - a ≥ 2 := by simpa using hb2
          rw [if_pos h2] at hDD
          simp -implicitDefEqProofs [g9, hw1]
          refine loopK.intro (ShD cm Q d.size cap a b I b1 sp g q DD) (fun t => natOf (t 11)) ?_ ?_
          · exact ⟨m, d3, by simp [g0], by simp [g1], by simp [g2], by simp [g3], by simp [g9], by simp [g10], by simp, by simp [hc3], hss, by omega, by omega, hDD.symm, hqs⟩
          · clear g0 g1 g2 g3 g9 g10 k1 hE hDD hqs q1 q2 q3 q4 s1 s2 f2 hw1 hm y1 y2 y1' y2' hss hq
            clear hsw hc3 hc1
            rintro t hh ⟨j, d2, g0, g1, g2, g3, g9, g10, gj, k1, hs, hj1, hj2, hE, hq⟩
            by_cases hjb : 1 ≤ j
            · have hjb' : (1 : Int) ≤ (j : Int) := by omega
              obtain ⟨m, hm⟩ : ∃ m, m = j - 1 := ⟨_, rfl⟩
              have hw1 : IntKind.i64.wrap ((j : Int) - 1) = (m : Int) := by rw [w64 (by omega) (by omega)] <;> omega
              skip
              obtain ⟨u1, u2⟩ := memV_at (d := d2) (sp := sp) (k := j) (by omega)
              obtain ⟨u3, u4⟩ := memV_at (d := d2) (sp := sp) (k := m) (by omega)
              have hx := hg d2[j]! d2[m]! (hq _ (by omega)) (hq _ (by omega))
              have hlx : ltV cm d2[j]! d2[m]! = decide (cm d2[j]! d2[m]! < 0) := rfl
              have y1 : j < d.size := by omega
              have y2 : m < d.size := by omega
              have y1' : (j : Int) < (d.size : Int) := by omega
              have y2' : (m : Int) < (d.size : Int) := by omega
              rw [shiftDown_go hjb, ← hm, hlx] at hE
              obtain ⟨c2, ⟨q1, q2⟩, ⟨q3, q4⟩, s1, f2, s2⟩ := swapV (d := d2) (sp := sp) (i := j) (j := m) (by omega) (by omega)
              have hss : (Go.Sort.swp d2 (j) (m)).size = d.size := by rw [Go.Sort.swp_size, hs]
              have hqs := swp_allV (Q := Q) (d := d2) (i := j) (j := m) (by omega) (by omega) hq
              generalize hc1 : memV d2 sp = c1 at *
              generalize hsw : Go.Sort.swp d2 (j) (m) = d3 at *
              generalize hc3 : memV d3 sp = c3 at *
              generalize d2[j]! = x at *
              generalize d2[m]! = y at *
              simp -implicitDefEqProofs [gj, g2, hjb']
              refine regionK.intro 13 follows_mixed (by kernel_rfl) ?_
              simp -implicitDefEqProofs [g0, g3, gj, hw1, y1, y2, y1', y2', k1, u1, u2, u3, u4, eV]
              refine CallQ.with hx (by simp [eV]) ?_
              by_cases hcm : cm x y < 0
              · simp [hcm] at hE
                simp -implicitDefEqProofs [hcm]
                refine regionK.modes [b1] [.r, .r, .q, .q, .q, .r, .r, .r, .r, .r, .q, .q, .q, .r, .r, .l, .r, .l] follows_mixed (by kernel_rfl) ?_
                simp -implicitDefEqProofs [g0, g3, gj, hw1, y1, y2, y1', y2', k1, q1, q2, q3, q4, s1, s2, f2, eV]
                exact ⟨⟨m, d3, by simp [g0], by simp [g1], by simp [g2], by simp [g3], by simp [g9], by simp [g10], by simp, by simp [hc3], hss, by omega, by omega, hE, hqs⟩, by omega⟩
              · simp [hcm] at hE
                subst hE
                simp -implicitDefEqProofs [hcm]
                exact ⟨d2, by simp [g0], by simp [g1], by simp [g2], by simp [g3], by simp [g9], by simp [g10], by rw [hc1]; exact k1, hs, rfl, hq⟩
            · have hjb' : ¬ (1 : Int) ≤ (j : Int) := by omega
              rw [shiftDown_stop hjb] at hE
              subst hE
              simp -implicitDefEqProofs [gj, g2, hjb']
              exact ⟨d2, by simp [g0], by simp [g1], by simp [g2], by simp [g3], by simp [g9], by simp [g10], k1, hs, rfl, hq⟩
        · have h2 : ¬ I - a ≥ 2 := by simpa using hb2
          rw [if_neg h2] at hDD
          simp -implicitDefEqProofs
          exact ⟨d3, by simp [g0], by simp [g1], by simp [g2], by simp [g3], by simp [g9], by simp [g10], by simp [hc3], hss, hDD.symm, hqs⟩
        clear g0 g1 g2 g3 g9 g10 k1 hqs q1 q2 q3 q4 s1 s2 f2 hss hq hDD
        rintro t hh ⟨d4, g0, g1, g2, g3, g9, g10, k1, hs, rfl, hq⟩
        obtain ⟨DD, hDD⟩ : ∃ DD, DD = if b - I ≥ 2 then Go.Sort.shiftUp (ltV cm) b (I + 1) d4 else d4 := ⟨_, rfl⟩
        rw [← hDD] at hE
        simp -implicitDefEqProofs [g2, g9, hwbi, e3]
        refine branch_cut (ShM Q d.size cap a b I b1 sp g q DD) (fun hb2 => ?_) (fun hb2 => ?_) ?_
        · have h2 : b - I ≥ 2 := by simpa using hb2
          rw [if_pos h2] at hDD
          simp -implicitDefEqProofs [g9, hwI]
          refine loopK.intro (ShU cm Q d.size cap a b I b1 sp g q DD) (fun t => b - natOf (t 12)) ?_ ?_
          · exact ⟨I + 1, d4, by simp [g0], by simp [g1], by simp [g2], by simp [g3], by simp [g9], by simp [g10], by simp, by simp [k1], hs, by omega, by omega, hDD.symm, hq⟩
          · clear g0 g1 g2 g3 g9 g10 k1 hE hDD hq hs y1 y2 y1' y2' hw1 hm
            clear hsw hc3 hc1
            rintro t hh ⟨j, d2, g0, g1, g2, g3, g9, g10, gj, k1, hs, hj1, hj2, hE, hq⟩
            by_cases hjb : j < b
            · have hjb' : (j : Int) < (b : Int) := by omega
              obtain ⟨m, hm⟩ : ∃ m, m = j - 1 := ⟨_, rfl⟩
              have hw1 : IntKind.i64.wrap ((j : Int) - 1) = (m : Int) := by rw [w64 (by omega) (by omega)] <;> omega
              have hwj : IntKind.i64.wrap ((j : Int) + 1) = ((j + 1 : Nat) : Int) := by rw [w64 (by omega) (by omega)] <;> omega
              obtain ⟨u1, u2⟩ := memV_at (d := d2) (sp := sp) (k := j) (by omega)
              obtain ⟨u3, u4⟩ := memV_at (d := d2) (sp := sp) (k := m) (by omega)
              have hx := hg d2[j]! d2[m]! (hq _ (by omega)) (hq _ (by omega))
              have hlx : ltV cm d2[j]! d2[m]! = decide (cm d2[j]! d2[m]! < 0) := rfl
              have y1 : j < d.size := by omega
              have y2 : m < d.size := by omega
              have y1' : (j : Int) < (d.size : Int) := by omega
              have y2' : (m : Int) < (d.size : Int) := by omega
              rw [shiftUp_go hjb, ← hm, hlx] at hE
              obtain ⟨c2, ⟨q1, q2⟩, ⟨q3, q4⟩, s1, f2, s2⟩ := swapV (d := d2) (sp := sp) (i := j) (j := m) (by omega) (by omega)
              have hss : (Go.Sort.swp d2 (j) (m)).size = d.size := by rw [Go.Sort.swp_size, hs]
              have hqs := swp_allV (Q := Q) (d := d2) (i := j) (j := m) (by omega) (by omega) hq
              generalize hc1 : memV d2 sp = c1 at *
              generalize hsw : Go.Sort.swp d2 (j) (m) = d3 at *
              generalize hc3 : memV d3 sp = c3 at *
              generalize d2[j]! = x at *
              generalize d2[m]! = y at *
              simp -implicitDefEqProofs [gj, g2, hjb']
              refine regionK.intro 13 follows_mixed (by kernel_rfl) ?_
              simp -implicitDefEqProofs [g0, g3, gj, hw1, y1, y2, y1', y2', k1, u1, u2, u3, u4, eV]
              refine CallQ.with hx (by simp [eV]) ?_
              by_cases hcm : cm x y < 0
              · simp [hcm] at hE
                simp -implicitDefEqProofs [hcm]
                refine regionK.modes [b1] [.r, .r, .q, .q, .q, .r, .r, .r, .r, .r, .q, .q, .q, .r, .r, .l, .r, .l] follows_mixed (by kernel_rfl) ?_
                simp -implicitDefEqProofs [g0, g3, gj, hw1, y1, y2, y1', y2', k1, q1, q2, q3, q4, s1, s2, f2, eV, hwj]
                exact ⟨⟨j + 1, d3, by simp [g0], by simp [g1], by simp [g2], by simp [g3], by simp [g9], by simp [g10], by simp, by simp [hc3], hss, by omega, by omega, hE, hqs⟩, by omega⟩
              · simp [hcm] at hE
                subst hE
                simp -implicitDefEqProofs [hcm]
                exact ⟨d2, by simp [g0], by simp [g1], by simp [g2], by simp [g3], by simp [g9], by simp [g10], by rw [hc1]; exact k1, hs, rfl, hq⟩
            · have hjb' : ¬ (j : Int) < (b : Int) := by omega
              rw [shiftUp_stop hjb] at hE
              subst hE
              simp -implicitDefEqProofs [gj, g2, hjb']
              exact ⟨d2, by simp [g0], by simp [g1], by simp [g2], by simp [g3], by simp [g9], by simp [g10], k1, hs, rfl, hq⟩
        · have h2 : ¬ b - I ≥ 2 := by simpa using hb2
          rw [if_neg h2] at hDD
          simp -implicitDefEqProofs
          exact ⟨d4, by simp [g0], by simp [g1], by simp [g2], by simp [g3], by simp [g9], by simp [g10], k1, hs, hDD.symm, hq⟩
        clear g0 g1 g2 g3 g9 g10 k1 hq hs hDD
        rintro t hh ⟨d5, g0, g1, g2, g3, g9, g10, k1, hs, rfl, hq⟩
        simp -implicitDefEqProofs [g10, hwq]
        exact ⟨⟨s, q + 1, I, d5, by simp [g0], by simp [g1], by simp [g2], by simp [g3], by simp [g9], by simp, by simp [k1], hs, by omega, by omega, by omega, hE, hq⟩, by omega⟩
end Go.Proofs.YtjbbfiagijjdoaaGreat

/- Contracts: views in memory of one's own are sorted. No condition. Printed by sort/v6.py. -/
set_option linter.unusedSimpArgs false
set_option linter.unusedVariables false
set_option maxRecDepth 10000
namespace Go.Proofs.YtjbbfiagijjdoaaGreat
open Go Go.Rw Go.Proofs
-- a goal is never to be run by the elaborator
attribute [local irreducible] awp aops aop aopsE aeff

theorem perm_all {Q : PView → Prop} {a b : Nat} {d d' : Array PView} (hb : b ≤ d.size) (hp : Go.Sort.PermIn a b d d') (hq : ∀ k < d.size, Q d[k]!) : ∀ k < d'.size, Q d'[k]! := by
  intro k hk
  rw [hp.1] at hk
  exact Go.Sort.permIn_all d d' 0 d.size Q (Nat.le_refl _) (Go.Sort.permIn_mono d d' a b 0 d.size (Nat.zero_le _) hb (Nat.le_refl _) hp) (fun i _ hi => hq i hi) k (Nat.zero_le _) hk
/-- whatever sorts this part sorts the whole -/
def Back (cm : PView → PView → Int) (a0 b0 : Nat) (d0 : Array PView) (a b : Nat) (d : Array PView) : Prop := ∀ R, Go.Sort.PermIn a b d R → Go.Sort.SortedIn (ltV cm) a b R → Go.Sort.PermIn a0 b0 d0 R ∧ Go.Sort.SortedIn (ltV cm) a0 b0 R
theorem Back.perm {cm : PView → PView → Int} {a0 b0 a b : Nat} {d0 d d' : Array PView} (h : Back cm a0 b0 d0 a b d) (hp : Go.Sort.PermIn a b d d') : Back cm a0 b0 d0 a b d' :=
  fun R h1 h2 => h R (Go.Sort.permIn_trans _ _ _ _ _ hp h1) h2
/-- an array whose part [a, b) is to be sorted -/
structure Ok (cm : PView → PView → Int) (Q : PView → Prop) (n a0 b0 : Nat) (d0 : Array PView) (a b : Nat) (d : Array PView) : Prop where
  size : d.size = n
  ab : a ≤ b
  bn : b ≤ n
  small : b - a ≤ b0 - a0
  below : Go.Sort.Below (ltV cm) a b d
  all : ∀ k < d.size, Q d[k]!
  back : Back cm a0 b0 d0 a b d
theorem Ok.perm {cm : PView → PView → Int} {Q : PView → Prop} {n a0 b0 a b : Nat} {d0 d d' : Array PView} (h : Ok cm Q n a0 b0 d0 a b d) (hp : Go.Sort.PermIn a b d d') : Ok cm Q n a0 b0 d0 a b d' :=
  ⟨hp.1.trans h.size, h.ab, h.bn, h.small, h.below.perm (by rw [h.size]; exact h.bn) hp, perm_all (by rw [h.size]; exact h.bn) hp h.all, h.back.perm hp⟩
def PdI (cm : PView → PView → Int) (Q : PView → Prop) (n cap a0 b0 b1 : Nat) (sp : List AV) (g : FuncId) (d0 : Array PView) (t : Nat → AV) (h : Nat → Option (List AV)) : Prop := ∃ (a b lim : Nat) (wb wp : Bool) (d : Array PView), t 0 = .sm b1 0 n cap ∧ t 1 = eI a ∧ t 2 = eI b ∧ t 3 = eI lim ∧ t 4 = .fn g [] ∧ t 10 = .v (.bool wb) ∧ t 11 = .v (.bool wp) ∧ h b1 = some (memV d sp) ∧ lim ≤ 1000 ∧ Ok cm Q n a0 b0 d0 a b d
def PdA (cm : PView → PView → Int) (Q : PView → Prop) (n cap a0 b0 b1 : Nat) (sp : List AV) (g : FuncId) (d0 : Array PView) (a b : Nat) (wb wp : Bool) (t : Nat → AV) (h : Nat → Option (List AV)) : Prop := ∃ (lim : Nat) (d : Array PView), t 0 = .sm b1 0 n cap ∧ t 1 = eI a ∧ t 2 = eI b ∧ t 3 = eI lim ∧ t 4 = .fn g [] ∧ t 10 = .v (.bool wb) ∧ t 11 = .v (.bool wp) ∧ t 12 = eI (b - a : Nat) ∧ h b1 = some (memV d sp) ∧ lim ≤ 1000 ∧ Ok cm Q n a0 b0 d0 a b d
def PdB (cm : PView → PView → Int) (Q : PView → Prop) (n cap a0 b0 b1 : Nat) (sp : List AV) (g : FuncId) (d0 : Array PView) (a b lim : Nat) (wb wp : Bool) (t : Nat → AV) (h : Nat → Option (List AV)) : Prop := ∃ (p hint : Nat) (d : Array PView), t 0 = .sm b1 0 n cap ∧ t 1 = eI a ∧ t 2 = eI b ∧ t 3 = eI lim ∧ t 4 = .fn g [] ∧ t 10 = .v (.bool wb) ∧ t 11 = .v (.bool wp) ∧ t 12 = eI (b - a : Nat) ∧ h b1 = some (memV d sp) ∧ t 13 = eI p ∧ t 14 = eI hint ∧ a ≤ p ∧ p < b ∧ Ok cm Q n a0 b0 d0 a b d
def PdC (cm : PView → PView → Int) (Q : PView → Prop) (n cap a0 b0 b1 : Nat) (sp : List AV) (g : FuncId) (d0 : Array PView) (a b lim p : Nat) (wb wp : Bool) (t : Nat → AV) (h : Nat → Option (List AV)) : Prop := ∃ d : Array PView, t 0 = .sm b1 0 n cap ∧ t 1 = eI a ∧ t 2 = eI b ∧ t 3 = eI lim ∧ t 4 = .fn g [] ∧ t 10 = .v (.bool wb) ∧ t 11 = .v (.bool wp) ∧ t 12 = eI (b - a : Nat) ∧ h b1 = some (memV d sp) ∧ t 13 = eI p ∧ Ok cm Q n a0 b0 d0 a b d
theorem pdqV (cm : PView → PView → Int) (Q : PView → Prop) (g : FuncId) (hg : ∀ x y, Q x → Q y → ASpec Tryz.prog g [.agg (eV x), .agg (eV y)] (· = eI (cm x y))) (hS : Go.Sort.SWO (ltV cm)) (sp : List AV) (b1 cap n : Nat) (hl : n ≤ 1000000000) : ∀ (N : Nat) (d : Array PView) (a b lim : Nat), b - a = N → lim ≤ 1000 → d.size = n → a ≤ b → b ≤ n → Go.Sort.Below (ltV cm) a b d → (∀ k < d.size, Q d[k]!) →
    MSpec Tryz.prog 144 [.sm b1 0 n cap, eI a, eI b, eI lim, .fn g []] (one b1 (memV d sp)) (fun r h' => ∃ R, h' = one b1 (memV R sp) ∧ Go.Sort.PermIn a b d R ∧ Go.Sort.SortedIn (ltV cm) a b R) := by
  intro N
  induction N using Nat.strongRecOn with
  | ind N ih =>
  intro d0 a0 b0 lim0 hN hlim0 hs0 hab0 hb0 hB0 hq0
  refine MSpec.of_awp Tryz.func144 (by kernel_rfl) rfl (by rw [Tryz.results144]) Tryz.ntmps144 ?_
  simp -implicitDefEqProofs
  refine loopK.intro (PdI cm Q n cap a0 b0 b1 sp g d0) (fun t => natOf (t 2) - natOf (t 1)) ?_ ?_
  · exact ⟨a0, b0, lim0, true, true, d0, by simp, by simp, by simp, by simp, by simp, by simp, by simp, by simp, hlim0, hs0, hab0, hb0, Nat.le_refl _, hB0, hq0, fun R h1 h2 => ⟨h1, h2⟩⟩
  clear hlim0 hB0 hq0 hab0
  rintro t hh ⟨a, b, lim, wb, wp, d, g0, g1, g2, g3, g4, g10, g11, k1, hlim, ok⟩
  have hs := ok.size
  have hab := ok.ab
  have hb := ok.bn
  have hsm := ok.small
  have hm : natOf (t 2) - natOf (t 1) = b - a := by rw [g1, g2]; simp
  rw [hm]
  have hwl : IntKind.i64.wrap ((b : Int) - (a : Int)) = ((b - a : Nat) : Int) := by rw [w64 (by omega) (by omega)] <;> omega
  by_cases h12 : b - a ≤ 12
  · have h12' : ((b - a : Nat) : Int) ≤ 12 := by omega
    have hcall := insertionV cm Q g hg d ok.all sp b1 cap a b (by omega) (by omega) (by omega)
    obtain ⟨hP, hSo⟩ := ok.back _ (Go.Sort.insertionSort_holds hS d a b hab (by omega)).1 (Go.Sort.insertionSort_holds hS d a b hab (by omega)).2
    rw [hs] at hcall
    generalize Go.Sort.insertionSort (ltV cm) d a b = R at *
    simp -implicitDefEqProofs [g0, g1, g2, g4, hwl, h12']
    refine CallK.mh hcall (by simp) (SubH_one.2 (by simp [k1, Weak.refl])) ?_
    rintro r h' H rfl - hH -
    have k2 := hH b1 _ (one_self _ _)
    simp -implicitDefEqProofs
    exact ⟨one b1 _, SubH_one.2 (by simp [k2, Weak.refl]), R, rfl, hP, hSo⟩
  have h12' : ¬ ((b - a : Nat) : Int) ≤ 12 := by omega
  by_cases hl0 : lim = 0
  · subst hl0
    have hcall := heapV cm Q g hg d ok.all sp b1 cap a b (by omega) (by omega) (by omega)
    obtain ⟨hP, hSo⟩ := ok.back _ (Go.Sort.heapSort_holds hS d a b hab (by omega)).1 (Go.Sort.heapSort_holds hS d a b hab (by omega)).2
    rw [hs] at hcall
    generalize Go.Sort.heapSort (ltV cm) d a b = R at *
    simp -implicitDefEqProofs [g0, g1, g2, g3, g4, hwl, h12']
    refine CallK.mh hcall (by simp) (SubH_one.2 (by simp [k1, Weak.refl])) ?_
    rintro r h' H rfl - hH -
    have k2 := hH b1 _ (one_self _ _)
    simp -implicitDefEqProofs
    exact ⟨one b1 _, SubH_one.2 (by simp [k2, Weak.refl]), R, rfl, hP, hSo⟩
  have hl0' : ¬ (lim : Int) = 0 := by omega
  have hwlim : IntKind.i64.wrap ((lim : Int) - 1) = ((lim - 1 : Nat) : Int) := by rw [w64 (by omega) (by omega)] <;> omega
  simp -implicitDefEqProofs [g1, g2, g3, g10, hwl, h12', hl0, hl0']
  refine branch_join (PdA cm Q n cap a0 b0 b1 sp g d0 a b wb wp) (fun hw => ?_) (fun hw => ?_) ?_
  · simp -implicitDefEqProofs
    exact ⟨lim, d, by simp [g0], by simp [g1], by simp [g2], by simp [g3], by simp [g4], by simp [g10], by simp [g11], by simp, k1, hlim, ok⟩
  · have hcall := breakV Q g d ok.all sp b1 cap a b hab (by omega) (by omega)
    have hP := Go.Sort.breakPatterns_holds d a b hab (by omega)
    rw [hs] at hcall
    generalize Go.Sort.breakPatterns d a b = R at *
    simp -implicitDefEqProofs [g0, g1, g2, g4]
    refine CallK.mh hcall (by simp) (SubH_one.2 (by simp [k1, Weak.refl])) ?_
    rintro r h' H rfl - hH -
    have k2 := hH b1 _ (one_self _ _)
    simp -implicitDefEqProofs [g3, hwlim]
    exact ⟨lim - 1, R, by simp [g0], by simp [g1], by simp [g2], by simp, by simp [g4], by simp [g10], by simp [g11], by simp, by simpa using k2, by omega, ok.perm hP⟩
  clear g0 g1 g2 g3 g4 g10 g11 k1 ok hs hm hlim hwlim hl0 hl0' hwl h12'
  rintro t hh ⟨lim, d, g0, g1, g2, g3, g4, g10, g11, g12, k1, hlim, ok⟩
  have hs := ok.size
  have hcall := choosePivotV cm Q g hg d ok.all sp b1 cap a b (by omega) (by omega) (by omega)
  obtain ⟨hp1, hp2⟩ := Go.Sort.choosePivot_holds (ltV cm) d a b (by omega)
  rw [hs] at hcall
  generalize (Go.Sort.choosePivot (ltV cm) d a b).1 = p at *
  generalize hintN (Go.Sort.choosePivot (ltV cm) d a b).2 = hint at *
  simp -implicitDefEqProofs [g0, g1, g2, g4]
  refine CallK.mh hcall (by simp) (SubH_one.2 (by simp [k1, Weak.refl])) ?_
  rintro r h' H ⟨rfl, rfl⟩ - hH -
  have k2 := hH b1 _ (one_self _ _)
  simp -implicitDefEqProofs
  refine branch_join (PdB cm Q n cap a0 b0 b1 sp g d0 a b lim wb wp) (fun hw => ?_) (fun hw => ?_) ?_
  · have hcall := reverseV Q g d ok.all sp b1 cap a b (by omega) (by omega) (by omega) (by omega)
    have hP := Go.Sort.reverseRange_holds d a b hab (by omega)
    have hw1 : IntKind.i64.wrap ((b : Int) - 1) = (b : Int) - 1 := by rw [w64 (by omega) (by omega)]
    have hw2 : IntKind.i64.wrap ((p : Int) - (a : Int)) = (p : Int) - (a : Int) := by rw [w64 (by omega) (by omega)]
    have hw3 : IntKind.i64.wrap ((b : Int) - 1 - ((p : Int) - (a : Int))) = ((b - 1 - (p - a) : Nat) : Int) := by rw [w64 (by omega) (by omega)] <;> omega
    rw [hs] at hcall
    generalize Go.Sort.reverseRange d a b = R at *
    simp -implicitDefEqProofs [g0, g1, g2, g4]
    refine CallK.mh hcall (by simp) (SubH_one.2 (by simp [k2, Weak.refl])) ?_
    rintro r h' H rfl - hH -
    have k3 := hH b1 _ (one_self _ _)
    simp -implicitDefEqProofs [g1, g2, hw1, hw2, hw3]
    exact ⟨b - 1 - (p - a), 1, R, by simp [g0], by simp [g1], by simp [g2], by simp [g3], by simp [g4], by simp [g10], by simp [g11], by simp [g12], by simpa using k3, by simp, by simp, by omega, by omega, ok.perm hP⟩
  · simp -implicitDefEqProofs
    exact ⟨p, hint, d, by simp [g0], by simp [g1], by simp [g2], by simp [g3], by simp [g4], by simp [g10], by simp [g11], by simp [g12], by simpa using k2, by simp, by simp, hp1, hp2, ok⟩
  clear g0 g1 g2 g3 g4 g10 g11 g12 k1 k2 ok hs hp1 hp2 hcall hH
  rintro t hh ⟨p, hint, d, g0, g1, g2, g3, g4, g10, g11, g12, k1, g13, g14, hp1, hp2, ok⟩
  have hs := ok.size
  refine awp_cutK (PdC cm Q n cap a0 b0 b1 sp g d0 a b lim p wb wp) ?_ ?_
  · have hno : PdC cm Q n cap a0 b0 b1 sp g d0 a b lim p wb wp t hh := ⟨d, g0, g1, g2, g3, g4, g10, g11, g12, k1, g13, ok⟩
    cases wb with
    | false => simp -implicitDefEqProofs [g10, g11, g14]; exact ⟨d, by simp [g0], by simp [g1], by simp [g2], by simp [g3], by simp [g4], by simp [g10], by simp [g11], by simp [g12], k1, by simp [g13], ok⟩
    | true =>
      cases wp with
      | false => simp -implicitDefEqProofs [g10, g11, g14]; exact ⟨d, by simp [g0], by simp [g1], by simp [g2], by simp [g3], by simp [g4], by simp [g10], by simp [g11], by simp [g12], k1, by simp [g13], ok⟩
      | true =>
        by_cases hh1 : hint = 1
        · subst hh1
          have hcall := partialV cm Q g hg d ok.all sp b1 cap a b (by omega) (by omega) (by omega)
          obtain ⟨hP, hSo⟩ := Go.Sort.partialInsertionSort_holds hS d a b (by omega) (by omega) ok.below
          rw [hs] at hcall
          generalize Go.Sort.partialInsertionSort (ltV cm) d a b = R at *
          obtain ⟨R, w⟩ := R
          simp only at *
          simp -implicitDefEqProofs [g0, g1, g2, g4, g10, g11, g14]
          refine CallK.mh hcall (by simp) (SubH_one.2 (by simp [k1, Weak.refl])) ?_
          rintro r h' H ⟨rfl, rfl⟩ - hH -
          have k2 := hH b1 _ (one_self _ _)
          cases w with
          | true =>
            simp -implicitDefEqProofs
            obtain ⟨hP2, hS2⟩ := ok.back _ hP (hSo rfl)
            exact ⟨one b1 _, SubH_one.2 (by simp [k2, Weak.refl]), R, rfl, hP2, hS2⟩
          | false =>
            simp -implicitDefEqProofs
            exact ⟨R, by simp [g0], by simp [g1], by simp [g2], by simp [g3], by simp [g4], by simp [g10], by simp [g11], by simp [g12], by simpa using k2, by simp [g13], ok.perm hP⟩
        · have hh1' : ¬ (hint : Int) = 1 := by omega
          simp -implicitDefEqProofs [g10, g11, g14, hh1']
          exact ⟨d, by simp [g0], by simp [g1], by simp [g2], by simp [g3], by simp [g4], by simp [g10], by simp [g11], by simp [g12], k1, by simp [g13], ok⟩
  clear g0 g1 g2 g3 g4 g10 g11 g12 k1 ok hs g13 g14
  rintro t hh ⟨d, g0, g1, g2, g3, g4, g10, g11, g12, k1, g13, ok⟩
  have hs := ok.size
  have hw1 : 0 < a → IntKind.i64.wrap ((a : Int) - 1) = ((a - 1 : Nat) : Int) := fun h => by rw [w64 (by omega) (by omega)] <;> omega
  refine awp_cutK (PdC cm Q n cap a0 b0 b1 sp g d0 a b lim p wb wp) ?_ ?_
  · simp -implicitDefEqProofs
    refine regionK.intro 17 follows_mixed (by kernel_rfl) ?_
    by_cases ha0 : 0 < a
    · have ha0' : (0 : Int) < (a : Int) := by omega
      have hw1 := hw1 ha0
      obtain ⟨a1, ha1⟩ : ∃ a1, a1 = a - 1 := ⟨_, rfl⟩
      rw [← ha1] at hw1
      obtain ⟨u1, u2⟩ := memV_at (d := d) (sp := sp) (k := a1) (by omega)
      obtain ⟨u3, u4⟩ := memV_at (d := d) (sp := sp) (k := p) (by omega)
      have hx := hg d[a1]! d[p]! (ok.all _ (by omega)) (ok.all _ (by omega))
      have hlx : ltV cm d[a1]! d[p]! = decide (cm d[a1]! d[p]! < 0) := rfl
      have y1 : a1 < n := by omega
      have y2 : p < n := by omega
      have y1' : (a1 : Int) < (n : Int) := by omega
      have y2' : (p : Int) < (n : Int) := by omega
      generalize hc1 : memV d sp = c1 at *
      generalize hX : d[a1]! = x at *
      generalize hY : d[p]! = y at *
      simp -implicitDefEqProofs [g0, g1, g4, g13, ha0, ha0', hw1, y1, y2, y1', y2', k1, u1, u2, u3, u4, eV]
      refine CallQ.with hx (by simp [eV]) ?_
      by_cases hcm : cm x y < 0
      · simp -implicitDefEqProofs [hcm]
        exact ⟨d, by simp [g0], by simp [g1], by simp [g2], by simp [g3], by simp [g4], by simp [g10], by simp [g11], by simp [g12], by rw [hc1]; exact k1, by simp [g13], ok⟩
      · have hnl : ltV cm d[a - 1]! d[p]! = false := by rw [← ha1, hX, hY, hlx]; simp [hcm]
        have hge : ∀ i, a ≤ i → i < b → ltV cm d[i]! d[p]! = false := fun i hi hi' => by
          rcases ok.below with h0 | hB
          · omega
          · exact hS.ntrans _ _ _ (hB i hi hi') hnl
        have hcall := partEqV cm Q g hg d ok.all sp b1 cap a b p hp1 hp2 (by omega) (by omega)
        have hpm := (Go.Sort.partitionEqual_holds (ltV cm) hS d a b p hp1 hp2 (by omega) hge).2.2.1
        rw [hs] at hcall
        obtain ⟨E, hE⟩ : ∃ E, Go.Sort.partitionEqual (ltV cm) d a b p = E := ⟨_, rfl⟩
        obtain ⟨mid, d4⟩ := E
        obtain ⟨r1, r2, r3, r4, r5⟩ := Go.Sort.round_eq hS (Go.Sort.partitionEqual_holds (ltV cm)) ha0 hp1 hp2 (by omega) ok.below hnl hE
        rw [hE] at hcall hpm
        simp only at hcall hpm
        rw [hc1] at hcall
        simp -implicitDefEqProofs [hcm, g0, g1, g2, g4, g13]
        refine CallK.mh hcall (by simp) (SubH_one.2 (by simp [k1, Weak.refl])) ?_
        rintro r h' H ⟨rfl, rfl⟩ - hH -
        have k2 := hH b1 _ (one_self _ _)
        simp -implicitDefEqProofs [g2]
        exact ⟨⟨mid, b, lim, wb, wp, d4, by simp [g0], by simp, by simp [g2], by simp [g3], by simp [g4], by simp [g10], by simp [g11], by simpa using k2, hlim, ⟨r3.trans hs, r2, hb, by omega, r4, perm_all (by omega) hpm ok.all, fun R h1 h2 => (fun x => ok.back R x.1 x.2) (r5 R h1 h2)⟩⟩, by omega⟩
    · have ha0' : ¬ (0 : Int) < (a : Int) := by omega
      simp -implicitDefEqProofs [g0, g1, g4, g13, ha0, ha0']
      exact ⟨d, by simp [g0], by simp [g1], by simp [g2], by simp [g3], by simp [g4], by simp [g10], by simp [g11], by simp [g12], k1, by simp [g13], ok⟩
  clear g0 g1 g2 g3 g4 g10 g11 g12 k1 ok hs g13 hw1
  rintro t hh ⟨d, g0, g1, g2, g3, g4, g10, g11, g12, k1, g13, ok⟩
  have hs := ok.size
  have hcall := partV cm Q g hg d ok.all sp b1 cap a b p hp1 hp2 (by omega) (by omega)
  have hpm := (Go.Sort.partition_holds (ltV cm) hS d a b p hp1 hp2 (by omega)).2.2.1
  rw [hs] at hcall
  obtain ⟨E, hE⟩ : ∃ E, Go.Sort.partition (ltV cm) d a b p = E := ⟨_, rfl⟩
  obtain ⟨mid, ap, d4⟩ := E
  obtain ⟨r1, r2, r3, r4, r5, r6, r7⟩ := Go.Sort.round_part hS (Go.Sort.partition_holds (ltV cm)) hp1 hp2 (by omega) ok.below hE
  rw [hE] at hcall hpm
  simp only at hcall hpm
  have hq4 : ∀ k < d4.size, Q d4[k]! := perm_all (by omega) hpm ok.all
  have hwL : IntKind.i64.wrap ((mid : Int) - (a : Int)) = ((mid - a : Nat) : Int) := by rw [w64 (by omega) (by omega)] <;> omega
  have hwR : IntKind.i64.wrap ((b : Int) - (mid : Int)) = ((b - mid : Nat) : Int) := by rw [w64 (by omega) (by omega)] <;> omega
  have hwM : IntKind.i64.wrap ((mid : Int) + 1) = ((mid + 1 : Nat) : Int) := by rw [w64 (by omega) (by omega)] <;> omega
  obtain ⟨w8, h8⟩ : ∃ w8, w8 = (b - a) / 8 := ⟨_, rfl⟩
  have hw8 : IntKind.i64.wrap (((b - a : Nat) : Int) / 8) = (w8 : Int) := by rw [w64 (by omega) (by omega)] <;> omega
  simp -implicitDefEqProofs [g0, g1, g2, g4, g13]
  refine CallK.mh hcall (by simp) (SubH_one.2 (by simp [k1, Weak.refl])) ?_
  rintro r h' H ⟨rfl, rfl⟩ - hH -
  have k2 := hH b1 _ (one_self _ _)
  by_cases hLR : mid - a < b - mid
  · have hLR' : ((mid - a : Nat) : Int) < ((b - mid : Nat) : Int) := by omega
    have hrec := ih (mid - a) (by omega) d4 a mid lim rfl hlim (r3.trans hs) r1 (by omega) r4 hq4
    simp -implicitDefEqProofs [g0, g1, g2, g3, g4, g12, hwL, hwR, hw8, hLR']
    refine CallK.mh hrec (by simp) (SubH_one.2 (by simp [k2, Weak.refl])) ?_
    rintro r h' H2 ⟨L, rfl, hL, hsL⟩ - hH -
    have k3 := hH b1 _ (one_self _ _)
    obtain ⟨hBL, hback⟩ := r6 L hL hsL
    simp -implicitDefEqProofs [g2, hwM]
    exact ⟨⟨mid + 1, b, lim, decide ((w8 : Int) ≤ ((mid - a : Nat) : Int)), ap, L, by simp [g0], by simp, by simp [g2], by simp [g3], by simp [g4], by simp, by simp, by simpa using k3, hlim, ⟨hL.1.trans (r3.trans hs), by omega, hb, by omega, hBL, perm_all (by omega) hL hq4, fun R h1 h2 => (fun x => ok.back R x.1 x.2) (hback R h1 h2)⟩⟩, by omega⟩
  · have hLR' : ¬ ((mid - a : Nat) : Int) < ((b - mid : Nat) : Int) := by omega
    have hrec := ih (b - (mid + 1)) (by omega) d4 (mid + 1) b lim rfl hlim (r3.trans hs) (by omega) hb r5 hq4
    simp -implicitDefEqProofs [g0, g1, g2, g3, g4, g12, hwL, hwR, hw8, hLR', hwM]
    refine CallK.mh hrec (by simp) (SubH_one.2 (by simp [k2, Weak.refl])) ?_
    rintro r h' H2 ⟨L, rfl, hL, hsL⟩ - hH -
    have k3 := hH b1 _ (one_self _ _)
    obtain ⟨hBL, hback⟩ := r7 L hL hsL
    simp -implicitDefEqProofs [g1]
    exact ⟨⟨a, mid, lim, decide ((w8 : Int) ≤ ((b - mid : Nat) : Int)), ap, L, by simp [g0], by simp [g1], by simp, by simp [g3], by simp [g4], by simp, by simp, by simpa using k3, hlim, ⟨hL.1.trans (r3.trans hs), by omega, by omega, by omega, hBL, perm_all (by omega) hL hq4, fun R h1 h2 => (fun x => ok.back R x.1 x.2) (hback R h1 h2)⟩⟩, by omega⟩
theorem sortV (cm : PView → PView → Int) (Q : PView → Prop) (g : FuncId) (hg : ∀ x y, Q x → Q y → ASpec Tryz.prog g [.agg (eV x), .agg (eV y)] (· = eI (cm x y))) (hS : Go.Sort.SWO (ltV cm)) (sp : List AV) (b1 cap : Nat) (d : Array PView) (hq : ∀ k < d.size, Q d[k]!) (hl : d.size ≤ 1000000000) :
    MSpec Tryz.prog 82 [.sm b1 0 d.size cap, .fn g []] (one b1 (memV d sp)) (fun r h' => ∃ R, h' = one b1 (memV R sp) ∧ Go.Sort.PermIn 0 d.size d R ∧ Go.Sort.SortedIn (ltV cm) 0 d.size R) := by
  refine MSpec.of_awp Tryz.func82 (by kernel_rfl) rfl (by rw [Tryz.results82]) Tryz.ntmps82 ?_
  have hw : IntKind.u64.wrap (d.size : Int) = (d.size : Int) := w64u_nat _ (by omega)
  have hle : Lib.bitLen d.size ≤ 64 := Lib.bitLen_le _ 64 (by omega) (by omega)
  simp -implicitDefEqProofs [hw]
  intro _
  refine CallK.with (bitsLen_spec d.size (by omega)) (by simp) ?_
  simp -implicitDefEqProofs
  refine CallK.mh (pdqV cm Q g hg hS sp b1 cap d.size hl _ d 0 d.size (Lib.bitLen d.size) rfl (by omega) rfl (by omega) (by omega) (Or.inl rfl) hq) (by simp) (SubH_one.2 (by simp [Weak.refl])) ?_
  rintro r h' H ⟨R, rfl, hP, hSo⟩ - hH -
  have k2 := hH b1 _ (one_self _ _)
  simp -implicitDefEqProofs
  exact ⟨one b1 _, SubH_one.2 (by simp [k2, Weak.refl]), R, rfl, hP, hSo⟩
end Go.Proofs.YtjbbfiagijjdoaaGreat

/- Plain: cells that are put together. No condition. -/
set_option linter.unusedSimpArgs false
set_option linter.unusedVariables false
set_option maxRecDepth 10000
namespace Go.Proofs.YtjbbfiagijjdoaaGreat
open Go Go.Rw Go.Proofs

theorem ltnode (x y : PCell) : ltC nodeCmp x y = decide (x.node < y.node) := by
  unfold ltC nodeCmp cmpI
  by_cases h : x.node < y.node
  · simp [h]
  · by_cases h2 : y.node < x.node <;> simp [h, h2]
theorem swoNode : Go.Sort.SWO (ltC nodeCmp) := by
  refine ⟨fun x => ?_, fun x y z h1 h2 => ?_, fun x y z h1 h2 => ?_⟩
  · rw [ltnode]; simp
  · rw [ltnode] at *; simp at *; omega
  · rw [ltnode] at *; simp at *; omega
theorem mergeS_perm (a b : List PCell) : (mergeS a b).Perm (a ++ newsC a b) ∧ (mergeS a b).Pairwise (fun x y => x.node ≤ y.node) := by
  obtain ⟨⟨hsz, _, hp⟩, hs⟩ := Go.Sort.insertionSort_holds (lt := ltC nodeCmp) swoNode (a ++ newsC a b).toArray 0 (a ++ newsC a b).toArray.size (Nat.zero_le _) (Nat.le_refl _)
  unfold mergeS
  generalize Go.Sort.insertionSort (ltC nodeCmp) (a ++ newsC a b).toArray 0 (a ++ newsC a b).toArray.size = d at *
  refine ⟨?_, ?_⟩
  · rw [show d.extract 0 (a ++ newsC a b).toArray.size = d by rw [← hsz]; exact Array.extract_size, Array.extract_size] at hp
    exact hp
  · rw [List.pairwise_iff_getElem]
    intro i j hi hj hij
    have hi' : i < d.size := by simpa using hi
    have hj' : j < d.size := by simpa using hj
    have := hs i j (Nat.zero_le _) hij (by omega)
    rw [getElem!_pos d j hj', getElem!_pos d i hi', ltnode] at this
    simp at this
    simpa using this
/-- cells that can be -/
def okCs (l : List PCell) : Prop := l.Pairwise (fun x y => x.node < y.node) ∧ ∀ x ∈ l, 0 ≤ x.node ∧ x.node < 6
theorem ofC_some {l : List PCell} {n : Int} {v : PView} (h : ofC l n = some v) : ⟨n, v⟩ ∈ l := by
  unfold ofC at h
  cases hf : l.find? (fun c => decide (c.node = n)) with
  | none => rw [hf] at h; simp at h
  | some c =>
    rw [hf] at h
    have h1 := List.find?_some hf
    have h2 := List.mem_of_find?_eq_some hf
    simp at h h1
    obtain ⟨n2, v2⟩ := c
    simp at h h1
    subst h; subst h1
    exact h2
theorem ofC_none {l : List PCell} {n : Int} : ofC l n = none ↔ ∀ c ∈ l, ¬ c.node = n := by
  unfold ofC
  simp
theorem node_inj {l : List PCell} (hl : l.Pairwise (fun x y => x.node < y.node)) {x y : PCell} (hx : x ∈ l) (hy : y ∈ l) (h : x.node = y.node) : x = y := by
  induction l with
  | nil => simp at hx
  | cons z l ih =>
    rw [List.pairwise_cons] at hl
    rcases List.mem_cons.1 hx with hx1 | hx1
    · rcases List.mem_cons.1 hy with hy1 | hy1
      · rw [hx1, hy1]
      · have := hl.1 y hy1; rw [hx1] at h; omega
    · rcases List.mem_cons.1 hy with hy1 | hy1
      · have := hl.1 x hx1; rw [hy1] at h; omega
      · exact ih hl.2 hx1 hy1
theorem ofC_mem {l : List PCell} (hl : l.Pairwise (fun x y => x.node < y.node)) {x : PCell} : x ∈ l ↔ ofC l x.node = some x.change := by
  constructor
  · intro hx
    cases h : ofC l x.node with
    | none => exact absurd rfl (ofC_none.1 h x hx)
    | some v =>
      have := node_inj hl hx (ofC_some h) rfl
      rw [this]
  · intro h
    exact ofC_some h
theorem merge1_mem {a b : List PCell} {n : Int} {x : PCell} : x ∈ mergeC1 a b n ↔ x.node = n ∧ (ofC a n = some x.change ∨ (ofC a n = none ∧ ofC b n = some x.change)) := by
  obtain ⟨m, v⟩ := x
  unfold mergeC1
  cases ha : ofC a n with
  | some w =>
    simp
    exact fun _ => eq_comm
  | none =>
    cases hb : ofC b n with
    | some w =>
      simp
      exact fun _ => eq_comm
    | none => simp
theorem mergeCK_mem {a b : List PCell} {k : Nat} {x : PCell} : x ∈ mergeCK a b k ↔ (0 ≤ x.node ∧ x.node < k) ∧ (ofC a x.node = some x.change ∨ (ofC a x.node = none ∧ ofC b x.node = some x.change)) := by
  induction k with
  | zero => simp [mergeCK]; omega
  | succ k ih =>
    rw [mergeCK, List.mem_append, ih, merge1_mem]
    constructor
    · rintro (⟨⟨h1, h2⟩, h3⟩ | ⟨h1, h2⟩)
      · exact ⟨⟨h1, by omega⟩, h3⟩
      · subst_vars; exact ⟨⟨by omega, by omega⟩, by rw [h1]; exact h2⟩
    · rintro ⟨⟨h1, h2⟩, h3⟩
      by_cases h : x.node < k
      · exact .inl ⟨⟨h1, h⟩, h3⟩
      · have e : x.node = (k : Int) := by omega
        rw [e] at h3
        exact .inr ⟨e, h3⟩
theorem mergeCK_sorted (a b : List PCell) (k : Nat) : (mergeCK a b k).Pairwise (fun x y => x.node < y.node) := by
  induction k with
  | zero => simp [mergeCK]
  | succ k ih =>
    rw [mergeCK, List.pairwise_append]
    refine ⟨ih, ?_, fun x hx y hy => ?_⟩
    · have := mergeC1_le a b k
      match h : mergeC1 a b k with
      | [] => simp
      | [_] => simp
      | _ :: _ :: _ => rw [h] at this; simp at this
    · have h1 := (mergeCK_mem.1 hx).1
      have h2 := (merge1_mem.1 hy).1
      omega
theorem okCs_merge (a b : List PCell) : okCs (mergeC a b) := ⟨mergeCK_sorted a b 6, fun x hx => (mergeCK_mem.1 hx).1⟩
theorem nodup_of {l : List PCell} (hl : l.Pairwise (fun x y => x.node < y.node)) : l.Nodup := hl.imp fun h => by rintro rfl; omega
theorem mergeS_eq {a b : List PCell} (ha : okCs a) (hb : okCs b) : mergeS a b = mergeC a b := by
  obtain ⟨hp, hs⟩ := mergeS_perm a b
  have hn : newsC a b = b.filter fun c => !(ofC a c.node).isSome := rfl
  have hnews : ∀ x, x ∈ newsC a b ↔ x ∈ b ∧ ofC a x.node = none := by
    intro x
    rw [hn, List.mem_filter]
    cases h : ofC a x.node <;> simp
  have hd : (a ++ newsC a b).Nodup := by
    rw [List.nodup_append]
    refine ⟨nodup_of ha.1, (nodup_of hb.1).filter _, fun x hx y hy => ?_⟩
    rintro rfl
    have h1 := ((hnews x).1 hy).2
    exact ofC_none.1 h1 x hx rfl
  have hm : ∀ x, x ∈ a ++ newsC a b ↔ x ∈ mergeC a b := by
    intro x
    rw [List.mem_append, hnews, mergeC, mergeCK_mem, ofC_mem ha.1, ofC_mem hb.1]
    constructor
    · rintro (h | ⟨h1, h2⟩)
      · exact ⟨ha.2 x (ofC_some h), .inl h⟩
      · exact ⟨hb.2 x (ofC_some h1), .inr ⟨h2, h1⟩⟩
    · rintro ⟨_, h | ⟨h1, h2⟩⟩
      · exact .inl h
      · exact .inr ⟨h2, h1⟩
  have hperm : (mergeS a b).Perm (mergeC a b) := hp.trans ((List.perm_ext_iff_of_nodup hd (nodup_of (mergeCK_sorted a b 6))).2 hm)
  refine List.Perm.eq_of_pairwise (le := fun x y => x.node ≤ y.node) (fun x y hx hy h1 h2 => ?_) hs ((mergeCK_sorted a b 6).imp fun h => by omega) hperm
  exact node_inj (mergeCK_sorted a b 6) ((hperm.mem_iff).1 hx) hy (by omega)
theorem okCs_len {l : List PCell} (h : okCs l) : l.length ≤ 6 := by
  have e : mergeS l [] = mergeC l [] := mergeS_eq h ⟨List.Pairwise.nil, fun x hx => by simp at hx⟩
  have h1 := (mergeS_perm l []).1.length_eq
  have h2 := mergeCK_le l [] 6
  rw [e] at h1
  simp [newsC] at h1
  rw [mergeC] at h1
  omega
theorem news_len {a b : List PCell} (ha : okCs a) (hb : okCs b) : (a ++ newsC a b).length ≤ 12 := by
  have h1 := okCs_len ha
  have h2 := okCs_len hb
  have h3 : (newsC a b).length ≤ b.length := List.length_filter_le _ _
  rw [List.length_append]; omega
end Go.Proofs.YtjbbfiagijjdoaaGreat

/- Records: plain data, and how they lie in Go. No condition. -/
set_option linter.unusedSimpArgs false
set_option linter.unusedVariables false
namespace Go.Proofs.YtjbbfiagijjdoaaGreat
open Go Go.Rw Go.Proofs

structure PRec where
  kind : Int
  view : PView
  cell : PCell
  entry : PEntry
  n : Int
  deriving DecidableEq
def zV : PView := ⟨0, 0⟩
def zC : PCell := ⟨0, ⟨0, 0⟩⟩
def zE : PEntry := ⟨0, ⟨0, 0⟩, 0⟩
def zR : PRec := ⟨0, zV, zC, zE, 0⟩
/-- what its kind has alone -/
def bareR (r : PRec) : PRec :=
  if r.kind = 1 then ⟨1, r.view, zC, r.entry, 0⟩
  else if r.kind = 2 then ⟨2, r.view, r.cell, zE, 0⟩
  else if r.kind = 5 then ⟨5, r.view, ⟨0, r.cell.change⟩, zE, 0⟩
  else if r.kind = 3 then ⟨3, r.view, zC, zE, 0⟩
  else if r.kind = 4 ∨ r.kind = 6 then ⟨r.kind, zV, zC, zE, r.n⟩
  else ⟨r.kind, zV, zC, zE, 0⟩
def sameR (a b : PRec) : Bool := decide (a.kind = b.kind) && (decide (a.view.add = b.view.add) && decide (a.view.del = b.view.del)) && (decide (a.cell.node = b.cell.node) && (decide (a.cell.change.add = b.cell.change.add) && decide (a.cell.change.del = b.cell.change.del))) && decide (a.n = b.n) && sameE a.entry b.entry
def sameRs : List PRec → List PRec → Bool
  | [], [] => true
  | x :: l, y :: m => sameR x y && sameRs l m
  | _, _ => false
/-- the record can be -/
def rightR (r : PRec) : Bool :=
  decide (1 ≤ r.kind ∧ r.kind ≤ 6) && sameR r (bareR r) && rightV r.view && rightV r.cell.change && decide (0 ≤ r.cell.node ∧ r.cell.node < 6) &&
  (if r.kind = 1 then checkE (-1) [r.entry] else if r.kind = 2 ∨ r.kind = 5 then decide (0 < sizeV r.cell.change) else if r.kind = 4 ∨ r.kind = 6 then decide (1 ≤ r.n ∧ r.n ≤ 1000000) else true)
def numsR (r : PRec) : List Nat :=
  if r.kind = 1 then [r.kind.toNat, (nameV r.view).toNat, r.entry.key.toNat, r.entry.tag.num.toNat, r.entry.tag.node.toNat, bitsF r.entry.value]
  else if r.kind = 2 then [r.kind.toNat, (nameV r.view).toNat, r.cell.node.toNat, (nameV r.cell.change).toNat]
  else if r.kind = 5 then [r.kind.toNat, (nameV r.view).toNat, (nameV r.cell.change).toNat]
  else if r.kind = 3 then [r.kind.toNat, (nameV r.view).toNat]
  else [r.kind.toNat, r.n.toNat]
def bodyR (r : PRec) : List UInt8 := sealF (forms (numsR r))
/-- a record's bytes -/
def recB (r : PRec) : List UInt8 := formF (bodyR r).length ++ bodyR r
def bytesR (r : PRec) : Option (List UInt8) := if rightR r = true then some (recB r) else none
def smallN (n : Nat) : Nat := min n 1099511627776
def nmdV (n : Nat) : Option PView := if smallN n < 4096 then some ⟨smallN n / 64, smallN n % 64⟩ else none
/-- the record of its numbers -/
def parseR (ns : List Nat) : Option PRec :=
  match ns with
  | [k, v, a, b, c, x] => if k = 1 then (nmdV v).bind fun w => if bitsF (ofF x) = x ∧ rightR ⟨1, w, zC, ⟨smallN a, ⟨smallN b, smallN c⟩, ofF x⟩, 0⟩ = true then some ⟨1, w, zC, ⟨smallN a, ⟨smallN b, smallN c⟩, ofF x⟩, 0⟩ else none else none
  | [k, v, a, b] => if k = 2 then (nmdV v).bind fun w => (nmdV b).bind fun u => if rightR ⟨2, w, ⟨smallN a, u⟩, zE, 0⟩ = true then some ⟨2, w, ⟨smallN a, u⟩, zE, 0⟩ else none else none
  | [k, v, b] => if k = 5 then (nmdV v).bind fun w => (nmdV b).bind fun u => if rightR ⟨5, w, ⟨0, u⟩, zE, 0⟩ = true then some ⟨5, w, ⟨0, u⟩, zE, 0⟩ else none else none
  | [k, v] => if k = 3 then (nmdV v).bind fun w => if rightR ⟨3, w, zC, zE, 0⟩ = true then some ⟨3, w, zC, zE, 0⟩ else none
    else if k = 4 ∨ k = 6 then (if rightR ⟨k, zV, zC, zE, smallN v⟩ = true then some ⟨k, zV, zC, zE, smallN v⟩ else none) else none
  | _ => none
def cutF (b : List UInt8) : Option (List UInt8 × List UInt8) := match getF b with
  | none => none
  | some (n, r) => if 4000 < n ∨ r.length < n then none else some (r.take n, r.drop n)
/-- all numbers of bytes -/
def allF (b : List UInt8) : Option (List Nat) := getsF b.length b
def oneR (t : List UInt8) : Option PRec := match openF t with
  | none => none
  | some b => match allF b with
    | none => none
    | some ns => parseR ns
def stepS (b : List UInt8) : Option (PRec × Nat) := match cutF b with
  | none => none
  | some (t, r) => match oneR t with
    | none => none
    | some x => some (x, b.length - r.length)
def scanK : Nat → List UInt8 → List PRec × Nat
  | 0, _ => ([], 0)
  | k + 1, b => match stepS b with
    | none => ([], 0)
    | some (r, n) => (r :: (scanK k (b.drop n)).1, n + (scanK k (b.drop n)).2)
/-- the records with which bytes begin, and how many bytes they are -/
def scanR (b : List UInt8) : List PRec × Nat := scanK b.length b

def eRc (r : PRec) : List AV := [eI r.kind, eI r.view.add, eI r.view.del, eI r.cell.node, eI r.cell.change.add, eI r.cell.change.del, eI r.entry.key, eI r.entry.tag.num, eI r.entry.tag.node, .v (.float .f64 r.entry.value), eI r.n]
def eRs (l : List PRec) : List (List AV) := l.map eRc
@[simp] theorem eRs_length (l : List PRec) : (eRs l).length = l.length := by simp [eRs]
@[simp] theorem eRs_get (l : List PRec) (i : Nat) : (eRs l)[i]? = (l[i]?).map eRc := by simp [eRs]
@[simp] theorem eRs_nil : eRs [] = [] := rfl
@[simp] theorem eRs_append (l m : List PRec) : eRs l ++ eRs m = eRs (l ++ m) := by simp [eRs]
@[simp] theorem eRs_take (l : List PRec) (i : Nat) : (eRs l).take i = eRs (l.take i) := by simp [eRs]
@[simp] theorem eRs_drop (l : List PRec) (i : Nat) : (eRs l).drop i = eRs (l.drop i) := by simp [eRs]
theorem eRs_one (l : List PRec) : ∀ r ∈ eRs l, r.length = 11 := by
  intro r hr
  obtain ⟨b, _, rfl⟩ := List.mem_map.1 hr
  rfl
@[simp] theorem eRs_rows (l : List PRec) : (∀ r : List AV, r ∈ eRs l → r.length = 11) ↔ True := iff_of_true (eRs_one l) trivial
end Go.Proofs.YtjbbfiagijjdoaaGreat

/- Plain: a state, and sorted lists. No condition. -/
set_option linter.unusedSimpArgs false
set_option linter.unusedVariables false
set_option maxRecDepth 10000
namespace Go.Proofs.YtjbbfiagijjdoaaGreat
open Go Go.Rw Go.Proofs

structure PVB where
  view : PView
  book : List PEntry
structure PVC where
  view : PView
  cells : List PCell
structure PVI where
  view : PView
  change : PView
def eVB (x : PVB) : List AV := [eI x.view.add, eI x.view.del, .sl .no (eEs x.book)]
def eVC (x : PVC) : List AV := [eI x.view.add, eI x.view.del, .sl .no (eCs x.cells)]
def eVI (x : PVI) : List AV := [eI x.view.add, eI x.view.del, eI x.change.add, eI x.change.del]
structure PState where
  books : List PVB
  cells : List PVC
  intents : List PVI
  held : PView
  inc : Int
  last : Int
def eSt (s : PState) : List AV := [.sl .no (s.books.map eVB), .sl .no (s.cells.map eVC), .sl .no (s.intents.map eVI), eI s.held.add, eI s.held.del, eI s.inc, eI s.last]

/-! ### sorted lists -/
section
variable {α : Type} (key : α → Int)
/-- how many stand ahead of a name -/
def posK (l : List α) (n : Int) : Nat := (l.filter fun x => decide (key x < n)).length
def hasK (l : List α) (n : Int) : Bool := l.any fun x => decide (key x = n)
def sortK (l : List α) : Prop := l.Pairwise fun x y => key x < key y
/-- what is put stands in its place -/
def putK (l : List α) (x : α) : List α := (l.filter fun y => decide (key y < key x)) ++ x :: l.filter fun y => decide (key x < key y)
variable {key}
theorem posK_le (l : List α) (n : Int) : posK key l n ≤ l.length := List.length_filter_le _ _
theorem take_posK {l : List α} (h : sortK key l) (n : Int) : l.take (posK key l n) = l.filter (fun x => decide (key x < n)) ∧ l.drop (posK key l n) = l.filter (fun x => decide (¬ key x < n)) := by
  induction l with
  | nil => simp [posK]
  | cons x l ih =>
    unfold sortK at h
    rw [List.pairwise_cons] at h
    obtain ⟨h1, h2⟩ := h
    obtain ⟨i1, i2⟩ := ih h2
    unfold posK at *
    by_cases hx : key x < n
    · simp only [hx, decide_true, List.filter_cons_of_pos, List.length_cons, List.take_succ_cons, List.drop_succ_cons, not_true, decide_false, Bool.false_eq_true, not_false_eq_true, List.filter_cons_of_neg]
      exact ⟨by rw [i1], i2⟩
    · have hn : ∀ y ∈ l, ¬ key y < n := fun y hy => by have := h1 y hy; omega
      have e1 : l.filter (fun x => decide (key x < n)) = [] := List.filter_eq_nil_iff.2 fun y hy => by simpa using Int.not_lt.1 (hn y hy)
      have e2 : l.filter (fun x => decide (¬ key x < n)) = l := List.filter_eq_self.2 fun y hy => by simpa using Int.not_lt.1 (hn y hy)
      rw [List.filter_cons_of_neg (by simpa using hx), e1, List.filter_cons_of_pos (by simpa using hx), e2]
      simp
theorem posK_lt {l : List α} (h : sortK key l) {n : Int} {i : Nat} {x : α} (hx : l[i]? = some x) : key x < n ↔ i < posK key l n := by
  obtain ⟨h1, h2⟩ := take_posK h n
  have hi : i < l.length := by
    rcases Nat.lt_or_ge i l.length with h | h
    · exact h
    · rw [List.getElem?_eq_none h] at hx; simp at hx
  constructor
  · intro hk
    rcases Nat.lt_or_ge i (posK key l n) with h3 | h3
    · exact h3
    · have hm : x ∈ l.drop (posK key l n) := by
        rw [List.mem_drop_iff_getElem]
        refine ⟨i - posK key l n, by omega, ?_⟩
        rw [List.getElem?_eq_getElem hi] at hx
        simp only [show posK key l n + (i - posK key l n) = i by omega]
        exact Option.some.inj hx
      rw [h2, List.mem_filter] at hm
      simp at hm; omega
  · intro hk
    have hm : x ∈ l.take (posK key l n) := by
      rw [List.mem_take_iff_getElem]
      rw [List.getElem?_eq_getElem hi] at hx
      exact ⟨i, by omega, Option.some.inj hx⟩
    rw [h1, List.mem_filter] at hm
    simpa using hm.2
theorem hasK_at {l : List α} (h : sortK key l) (n : Int) : (∃ x, l[posK key l n]? = some x ∧ key x = n ∧ hasK key l n = true) ∨ ((∀ x, l[posK key l n]? = some x → ¬ key x = n) ∧ hasK key l n = false) := by
  by_cases hh : hasK key l n = true
  · left
    have hh2 := hh
    rw [hasK, List.any_eq_true] at hh2
    obtain ⟨x, hx, hk⟩ := hh2
    simp at hk
    obtain ⟨i, hi, e⟩ := List.mem_iff_getElem.1 hx
    have hxi : l[i]? = some x := by rw [List.getElem?_eq_getElem hi, e]
    have hge : posK key l n ≤ i := by
      rcases Nat.lt_or_ge i (posK key l n) with h3 | h3
      · have := (posK_lt h hxi).2 h3; omega
      · exact h3
    have hlt : posK key l n < l.length := by omega
    have hy : l[posK key l n]? = some l[posK key l n] := List.getElem?_eq_getElem hlt
    have h5 : ¬ key l[posK key l n] < n := fun h6 => by have := (posK_lt h hy).1 h6; omega
    rcases Nat.lt_or_ge (posK key l n) i with h4 | h4
    · have h7 := (List.pairwise_iff_getElem.1 h) (posK key l n) i hlt hi h4
      rw [e] at h7; omega
    · have e2 : posK key l n = i := by omega
      refine ⟨x, by rw [e2]; exact hxi, hk, hh⟩
  · right
    refine ⟨fun x hx hk => hh ?_, by simpa using hh⟩
    rw [hasK, List.any_eq_true]
    exact ⟨x, List.mem_of_getElem? hx, by simpa using hk⟩
end
end Go.Proofs.YtjbbfiagijjdoaaGreat

/- Contracts: where something stands by its view (api.ViewBook). Printed by sort/gen.py. No condition. -/
set_option linter.unusedSimpArgs false
set_option linter.unusedVariables false
set_option maxRecDepth 10000
namespace Go.Proofs.YtjbbfiagijjdoaaGreat
open Go Go.Rw Go.Proofs
-- a goal is never to be run by the elaborator
attribute [local irreducible] awp aops aop aopsE aeff

@[simp] theorem vTfVB : vT Tryz.prog 112 = some (1, false) := by kernel_rfl
def keyVB (x : PVB) : Int := nameV x.view
def rowsVB (l : List PVB) : List (List AV) := l.map eVB
@[simp] theorem rowsVB_length (l : List PVB) : (rowsVB l).length = l.length := by simp [rowsVB]
@[simp] theorem rowsVB_get (l : List PVB) (i : Nat) : (rowsVB l)[i]? = (l[i]?).map eVB := by simp [rowsVB]
@[simp] theorem rowsVB_nil : rowsVB [] = [] := rfl
@[simp] theorem rowsVB_append (l m : List PVB) : rowsVB l ++ rowsVB m = rowsVB (l ++ m) := by simp [rowsVB]
theorem rowsVB_one (l : List PVB) : ∀ r ∈ rowsVB l, r.length = 3 := by
  intro r hr
  obtain ⟨c, _, rfl⟩ := List.mem_map.1 hr
  rfl
@[simp] theorem rowsVB_rows (l : List PVB) : (∀ r : List AV, r ∈ rowsVB l → r.length = 3) ↔ True := iff_of_true (rowsVB_one l) trivial
theorem ofVB_spec (x : PVB) : ASpec Tryz.prog 88 [.agg (eVB x)] (· = .agg (eV x.view)) := by
  refine ASpec.of_awp Tryz.func88 (by kernel_rfl) rfl (by rw [Tryz.results88]) Tryz.ntmps88 ?_
  simp -implicitDefEqProofs [eVB]
  refine allocK.intro (fun b1 hb1 => ?_)
  simp -implicitDefEqProofs
  refine allocK.intro (fun b2 hb2 => ?_)
  have n12 : ¬ b1 = b2 := by rintro rfl; simp at hb2
  have n21 : ¬ b2 = b1 := fun h => n12 h.symm
  simp -implicitDefEqProofs [n12, n21, eV]
theorem shelvedVB_spec : ASpec Tryz.prog 87 [.fn 88 []] (· = .agg [.fn 88 []]) := by
  refine ASpec.of_awp Tryz.func87 (by kernel_rfl) rfl (by rw [Tryz.results87]) Tryz.ntmps87 ?_
  simp -implicitDefEqProofs
  refine allocK.intro (fun b1 hb1 => ?_)
  simp -implicitDefEqProofs
theorem placeKeyVB_spec (x : PVB) (b : Nat) (n : Int) (h : rightV x.view = true) : MSpec Tryz.prog 149 [.agg (eVB x), eI n, .ptr b 0] (one b [.fn 88 []]) (fun r h' => r = eI (cmpI (keyVB x) n) ∧ h' = one b [.fn 88 []]) := by
  refine MSpec.of_awp Tryz.func149 (by kernel_rfl) rfl (by rw [Tryz.results149]) Tryz.ntmps149 ?_
  simp -implicitDefEqProofs [eVB]
  refine allocK.intro (fun b1 hb1 => ?_)
  have n1 : ¬ b1 = b := by rintro rfl; simp at hb1
  have n2 : ¬ b = b1 := fun h => n1 h.symm
  simp -implicitDefEqProofs [n1, n2]
  refine CallK.with (ofVB_spec x) (by simp [eVB]) ?_
  simp -implicitDefEqProofs [eV]
  refine CallK.with (change_name x.view h) (by simp [eV]) ?_
  simp -implicitDefEqProofs
  refine CallK.eq (compare_int (nameV x.view) n) ?_
  simp -implicitDefEqProofs [n1, n2, keyVB]
def BsVBI (l : List PVB) (n : Int) (g : FuncId) (b : Nat) (c : List AV) (t : Nat → AV) (h : Nat → Option (List AV)) : Prop := ∃ i j : Nat, t 0 = .sl .no (rowsVB l) ∧ t 1 = eI n ∧ t 2 = .fn g [.ptr b 0] ∧ t 8 = eI l.length ∧ t 9 = eI i ∧ t 10 = eI j ∧ i ≤ posK keyVB l n ∧ posK keyVB l n ≤ j ∧ j ≤ l.length ∧ h b = some c
def BsVBM (l : List PVB) (n : Int) (g : FuncId) (b : Nat) (c : List AV) (t : Nat → AV) (h : Nat → Option (List AV)) : Prop := t 0 = .sl .no (rowsVB l) ∧ t 1 = eI n ∧ t 2 = .fn g [.ptr b 0] ∧ t 8 = eI l.length ∧ t 9 = eI (posK keyVB l n) ∧ h b = some c
theorem bsearchVB_spec (g : FuncId) (b : Nat) (c : List AV) (l : List PVB) (n : Int) (hs : sortK keyVB l) (hl : l.length ≤ 1000000000) (hf : ∀ x ∈ l, MSpec Tryz.prog g [.agg (eVB x), eI n, .ptr b 0] (one b c) (fun r h' => r = eI (cmpI (keyVB x) n) ∧ h' = one b c)) :
    MSpec Tryz.prog 148 [.sl .no (rowsVB l), eI n, .fn g [.ptr b 0]] (one b c) (fun r h' => r = .tup [eI (posK keyVB l n), .v (.bool (hasK keyVB l n))] ∧ h' = one b c) := by
  have hp := posK_le (key := keyVB) l n
  refine MSpec.of_awp Tryz.func148 (by kernel_rfl) rfl (by rw [Tryz.results148]) Tryz.ntmps148 ?_
  simp -implicitDefEqProofs
  intro _
  refine loopK.post (BsVBI l n g b c) (fun t => natOf (t 10) - natOf (t 9)) (BsVBM l n g b c) ?_ ?_ ?_
  · exact ⟨0, l.length, by simp, by simp, by simp, by simp, by simp, by simp, by omega, hp, by omega, by simp⟩
  · rintro t hh ⟨i, j, g0, g1, g2, g8, g9, g10, hi, hj, hjl, hb⟩
    have hm9 : natOf (t 9) = i := by rw [g9]; simp
    have hm10 : natOf (t 10) = j := by rw [g10]; simp
    by_cases hlt : i < j
    · have hlt' : (i : Int) < (j : Int) := by omega
      have w1 : IntKind.i64.wrap ((i : Int) + (j : Int)) = (i : Int) + (j : Int) := w64 (by omega) (by omega)
      have w2 : IntKind.u64.wrap ((i : Int) + (j : Int)) = (i : Int) + (j : Int) := by
        simp [IntKind.wrap, IntKind.bits, IntKind.signed]; omega
      obtain ⟨m, hm⟩ : ∃ m : Nat, m = (i + j) / 2 := ⟨_, rfl⟩
      have w3 : ((i : Int) + (j : Int)) / 2 = (m : Int) := by omega
      have w4 : IntKind.i64.wrap (m : Int) = (m : Int) := w64 (by omega) (by omega)
      have w4' : IntKind.u64.wrap (m : Int) = (m : Int) := by
        simp [IntKind.wrap, IntKind.bits, IntKind.signed]; omega
      have w5 : IntKind.i64.wrap ((m : Int) + 1) = ((m + 1 : Nat) : Int) := by rw [w64 (by omega) (by omega)]; omega
      have hml : m < l.length := by omega
      obtain ⟨x, hx⟩ : ∃ x, l[m]? = some x := ⟨l[m], by simp [hml]⟩
      have hpk := posK_lt hs (n := n) hx
      have s1 : Int.fdiv ((i : Int) + (j : Int)) (2 ^ min 1 IntKind.u64.bits) = (m : Int) := by
        have := shr_u64 (i + j) 1 (by omega)
        rw [hm]
        simpa using this
      have hml' : (m : Int) < (l.length : Int) := by omega
      simp -implicitDefEqProofs [g0, g1, g2, g9, g10, hlt', hlt, w1, w2, w3, w4, w4', hx, hml', eVB, aNum_shr, s1]
      refine CallK.one (hf x (List.mem_of_getElem? hx)) (by simp [eVB]) (by simp [hb, Weak.refl]) ?_
      have hcm : (cmpI (keyVB x) n < 0) ↔ keyVB x < n := by
        unfold cmpI
        by_cases h1 : keyVB x < n
        · simp [h1]
        · by_cases h2 : n < keyVB x <;> simp [h1, h2]
      by_cases hk : keyVB x < n
      · have hk1 := hcm.2 hk
        have hk2 := hpk.1 hk
        simp -implicitDefEqProofs [hk1, w5]
        exact ⟨⟨m + 1, j, by simp [g0], by simp [g1], by simp [g2], by simp [g8], by simp, by simp [g10], by omega, hj, hjl, by simp⟩, by first | omega | (simp [g9, g10]; omega)⟩
      · have hk1 : ¬ cmpI (keyVB x) n < 0 := fun h => hk (hcm.1 h)
        have hk2 : posK keyVB l n ≤ m := by
          rcases Nat.lt_or_ge m (posK keyVB l n) with h | h
          · exact absurd (hpk.2 h) hk
          · exact h
        simp -implicitDefEqProofs [hk1]
        exact ⟨⟨i, m, by simp [g0], by simp [g1], by simp [g2], by simp [g8], by simp [g9], by simp, hi, hk2, by omega, by simp⟩, by first | omega | (simp [g9, g10]; omega) | (simp [g9, g10, upd]; omega)⟩
    · have hlt' : ¬ (i : Int) < (j : Int) := by omega
      obtain rfl : i = posK keyVB l n := by omega
      simp -implicitDefEqProofs [g9, g10, hlt', hlt]
      exact ⟨by simp [g0], by simp [g1], by simp [g2], by simp [g8], by simp [g9], hb⟩
  rintro t hh ⟨g0, g1, g2, g8, g9, hb⟩
  have hcz : ∀ x : PVB, (cmpI (keyVB x) n = 0) ↔ keyVB x = n := fun x => by
    unfold cmpI
    by_cases h1 : keyVB x < n
    · have h3 : ¬ keyVB x = n := by omega
      simp [h1, h3]
    · by_cases h2 : n < keyVB x
      · have h3 : ¬ keyVB x = n := by omega
        simp [h1, h2, h3]
      · have h3 : keyVB x = n := by omega
        simp [h3]
  have hat := hasK_at hs n
  generalize posK keyVB l n = p at *
  by_cases hlt : p < l.length
  · have hlt' : (p : Int) < (l.length : Int) := by omega
    obtain ⟨x, hx⟩ : ∃ x, l[p]? = some x := ⟨l[p], by simp [hlt]⟩
    simp -implicitDefEqProofs [g0, g1, g2, g8, g9, hlt', hx, eVB]
    refine CallK.one (hf x (List.mem_of_getElem? hx)) (by simp [eVB]) (by simp [hb, Weak.refl]) ?_
    by_cases hk : keyVB x = n
    · have h1 := (hcz x).2 hk
      have h2 : hasK keyVB l n = true := by
        rcases hat with ⟨y, h3, h4, h5⟩ | ⟨h3, h4⟩
        · exact h5
        · exact absurd hk (h3 x hx)
      simp -implicitDefEqProofs [h1, h2, g9, hb, Weak.refl]
    · have h1 : ¬ cmpI (keyVB x) n = 0 := fun h => hk ((hcz x).1 h)
      have h2 : hasK keyVB l n = false := by
        rcases hat with ⟨y, h3, h4, h5⟩ | ⟨h3, h4⟩
        · rw [hx] at h3; cases h3; exact absurd h4 hk
        · exact h4
      simp -implicitDefEqProofs [h1, h2, g9, hb, Weak.refl]
  · have hlt' : ¬ (p : Int) < (l.length : Int) := by omega
    have h2 : hasK keyVB l n = false := by
      rcases hat with ⟨y, h3, h4, h5⟩ | ⟨h3, h4⟩
      · rw [List.getElem?_eq_none (by omega)] at h3; simp at h3
      · exact h4
    simp -implicitDefEqProofs [g0, g1, g2, g8, g9, hlt', h2, hb, Weak.refl]
theorem placeVB_spec (l : List PVB) (v : PView) (hs : sortK keyVB l) (hl : l.length ≤ 1000000000) (hr : ∀ x ∈ l, rightV x.view = true) (hv : rightV v = true) :
    ASpec Tryz.prog 89 [.agg [.fn 88 []], .sl .no (rowsVB l), .agg (eV v)] (· = .tup [eI (posK keyVB l (nameV v)), .v (.bool (hasK keyVB l (nameV v)))]) := by
  refine ASpec.of_awp Tryz.func89 (by kernel_rfl) rfl (by rw [Tryz.results89]) Tryz.ntmps89 ?_
  simp -implicitDefEqProofs [eV]
  refine allocK.intro (fun b1 hb1 => ?_)
  simp -implicitDefEqProofs
  refine allocK.intro (fun b2 hb2 => ?_)
  have n12 : ¬ b1 = b2 := by rintro rfl; simp at hb2
  have n21 : ¬ b2 = b1 := fun h => n12 h.symm
  simp -implicitDefEqProofs [n12, n21]
  refine CallK.with (change_name v hv) (by simp [eV]) ?_
  simp -implicitDefEqProofs [n12, n21]
  refine CallK.one (bsearchVB_spec 149 b1 [.fn 88 []] l (nameV v) hs hl (fun x hx => placeKeyVB_spec x b1 (nameV v) (hr x hx))) rfl (by simp [n12, Weak.refl]) ?_
  simp -implicitDefEqProofs
end Go.Proofs.YtjbbfiagijjdoaaGreat

/- Contracts: something is put in its place (api.ViewBook). Printed by sort/gen.py. No condition. -/
set_option linter.unusedSimpArgs false
set_option linter.unusedVariables false
set_option maxRecDepth 10000
namespace Go.Proofs.YtjbbfiagijjdoaaGreat
open Go Go.Rw Go.Proofs
-- a goal is never to be run by the elaborator
attribute [local irreducible] awp aops aop aopsE aeff

theorem deadVB (l : List PVB) : (rowsVB l).flatten.map dead1 = (rowsVB l).flatten := by
  induction l with
  | nil => rfl
  | cons x l ih => simp [rowsVB, eVB, dead1] at *; try exact ih
theorem dead2VB (l : List PVB) : (rowsVB l).map (List.map dead1) = rowsVB l := by
  induction l with
  | nil => rfl
  | cons x l ih => simp [rowsVB, eVB, dead1] at *; try exact ih
theorem flenVB (l : List PVB) : (rowsVB l).flatten.length = l.length * 3 := by
  rw [flat_len (rowsVB_one l)]; simp
theorem chunksVB (l : List PVB) (sp : List AV) : chunks ((rowsVB l).flatten ++ sp) (rowsVB l) 3 := by
  refine ⟨rowsVB_one l, ?_, ?_, ?_⟩
  · rw [show (rowsVB l).length * 3 = (rowsVB l).flatten.length by rw [flenVB]; simp, List.take_left, deadVB]
  · rw [List.length_append, flenVB]; simp
  · intro r hr x hx
    obtain ⟨c, _, rfl⟩ := List.mem_map.1 hr
    simp [eVB] at hx
    rcases hx with rfl | rfl | rfl <;> rfl
def ClVBR (l : List PVB) (r : AV) : Prop := (∃ tag, (tag = .nil ∨ tag = .full) ∧ r = .sl tag [] ∧ l = []) ∨ (rowsVB l ≠ [] ∧ r = .sl (.live 89 3 true) (rowsVB l))
theorem cloneVB_own (l : List PVB) (hl : l.length * 40 ≤ 140737488355328) : ASpec Tryz.prog 126 [.sl .no (rowsVB l)] (ClVBR l) := by
  refine ASpec.of_awp Tryz.func126 (by kernel_rfl) rfl (by rw [Tryz.results126]) Tryz.ntmps126 ?_
  simp -implicitDefEqProofs
  refine nilK.intro (fun h => ?_) ?_
  · have h' : l = [] := by simpa [rowsVB] using h
    simp -implicitDefEqProofs [h]; exact .inl ⟨_, .inl rfl, rfl, h'⟩
  · simp -implicitDefEqProofs [hl]
    by_cases h : l = []
    · subst h; exact .inl ⟨_, .inr rfl, rfl, rfl⟩
    · have h' : rowsVB l ≠ [] := by simpa [rowsVB] using h
      exact .inr ⟨h', by rw [appTag_full h']⟩
theorem insertVB_mn (x : PVB) : MSpec Tryz.prog 154 [.mn, eI 0, .sl .no [eVB x]] (fun _ => none) (fun r h' => ∃ b c sp, r = .sm b 0 1 c ∧ h' = one b (eVB x ++ sp) ∧ 3 + sp.length = c * 3) := by
  refine MSpec.of_awp Tryz.func154 (by kernel_rfl) rfl (by rw [Tryz.results154]) Tryz.ntmps154 ?_
  simp -implicitDefEqProofs [eVB]
  refine growMnK.intro (fun h => by simp at h) fun _ b c sp hb hc hsp => ?_
  simp -implicitDefEqProofs
  simp at hsp
  exact ⟨_, SubH_one.2 (by simp; exact Weak.refl _), b, c, ⟨rfl, rfl⟩, sp, rfl, by omega⟩
theorem lay_atVB (P T X : List AV) : overlay (P ++ T) P.length X = P ++ X ++ T.drop X.length := by
  unfold overlay
  rw [List.take_left, List.drop_append, List.drop_of_length_le (by omega), List.nil_append, Nat.add_sub_cancel_left]
theorem lay_twiceVB (P T X Y : List AV) : overlay (overlay (P ++ T) P.length X) (P.length + X.length) Y = P ++ X ++ Y ++ T.drop (X.length + Y.length) := by
  rw [lay_atVB, ← List.length_append, lay_atVB, List.drop_drop]
theorem lay_backVB (P T R Q : List AV) (h : R.length ≤ T.length) : overlay (overlay (P ++ T) (P.length + R.length) Q) P.length R = P ++ R ++ Q ++ T.drop (R.length + Q.length) := by
  have e : overlay (P ++ T) (P.length + R.length) Q = P ++ (T.take R.length ++ (Q ++ T.drop (R.length + Q.length))) := by
    unfold overlay
    rw [List.take_append, List.take_of_length_le (by omega), Nat.add_sub_cancel_left, List.drop_append, List.drop_of_length_le (by omega), List.nil_append, show P.length + R.length + Q.length - P.length = R.length + Q.length by omega]
    simp only [List.append_assoc]
  rw [e, lay_atVB, List.drop_append, List.drop_of_length_le (by rw [List.length_take]; omega), List.nil_append, List.length_take, Nat.min_eq_left h, Nat.sub_self, List.drop_zero]
  simp only [List.append_assoc]
/-- behind an insertion -/
def insVB (l : List PVB) (i : Nat) (x : PVB) : List PVB := l.take i ++ x :: l.drop i
theorem insertVB_sm (l : List PVB) (i b cap : Nat) (sp : List AV) (x : PVB) (h0 : 0 < l.length) (hi : i ≤ l.length) (hl : l.length ≤ 1000000000) (hsp : l.length * 3 + sp.length = cap * 3) :
    MSpec Tryz.prog 154 [.sm b 0 l.length cap, eI i, .sl .no [eVB x]] (one b ((rowsVB l).flatten ++ sp)) (fun r h' => ∃ b' c' sp', r = .sm b' 0 (l.length + 1) c' ∧ h' = one b' ((rowsVB (insVB l i x)).flatten ++ sp') ∧ (l.length + 1) * 3 + sp'.length = c' * 3) := by
  refine MSpec.of_awp Tryz.func154 (by kernel_rfl) rfl (by rw [Tryz.results154]) Tryz.ntmps154 ?_
  have hlen := flenVB l
  have hcl : ((rowsVB l).flatten ++ sp).length = cap * 3 := by rw [List.length_append, hlen]; exact hsp
  have w1 : IntKind.i64.wrap ((l.length : Int) + 1) = ((l.length + 1 : Nat) : Int) := by rw [w64 (by omega) (by omega)]; omega
  generalize hA : (rowsVB l).flatten ++ sp = A at *
  have hne : ¬ l = [] := by rintro rfl; simp at h0
  by_cases hil : i = l.length
  · subst hil
    simp -implicitDefEqProofs [eVB, hne, hcl]
    intro _
    refine ⟨by omega, growSmK.intro fun b' c' spare hb' hc' hsp' => ?_⟩
    have htk : (A.take (l.length * 3)).map dead1 = (rowsVB l).flatten := by rw [← hA, ← hlen, List.take_left, deadVB]
    have hfin : (A.take (l.length * 3)).map dead1 ++ [eVB x].flatten.map dead1 ++ spare = (rowsVB (insVB l l.length x)).flatten ++ spare := by
      rw [htk]; simp [insVB, rowsVB, eVB, dead1]
    simp only [eVB] at hfin
    rw [hfin]
    simp -implicitDefEqProofs
    simp at hsp'
    exact ⟨_, SubH_one.2 (by simp; exact Weak.refl _), b', c', ⟨rfl, rfl⟩, spare, rfl, by omega⟩
  · have hlt : i < l.length := by omega
    have hil' : ¬ (i : Int) = (l.length : Int) := by omega
    have hlt' : (i : Int) < (l.length : Int) := by omega
    have hle : i ≤ l.length := hi
    have hti : (l.take i).length = i := by rw [List.length_take]; omega
    have hP : (rowsVB (l.take i)).flatten.length = i * 3 := by rw [flenVB, hti]
    have hQl : (rowsVB (l.drop i)).flatten.length = (l.length - i) * 3 := by rw [flenVB, List.length_drop]
    have hsplit : (rowsVB l).flatten = (rowsVB (l.take i)).flatten ++ (rowsVB (l.drop i)).flatten := by
      rw [← List.flatten_append, rowsVB_append, List.take_append_drop]
    have hins : (rowsVB (insVB l i x)).flatten = (rowsVB (l.take i)).flatten ++ eVB x ++ (rowsVB (l.drop i)).flatten := by
      simp [insVB, rowsVB]
    have hA2 : A = (rowsVB (l.take i)).flatten ++ ((rowsVB (l.drop i)).flatten ++ sp) := by rw [← hA, hsplit, List.append_assoc]
    have hPd := deadVB (l.take i)
    have hQd := deadVB (l.drop i)
    have hQc : ∀ x ∈ (rowsVB (l.drop i)).flatten, cellAV x = true := by
      intro y hy
      obtain ⟨r, hr, hy⟩ := List.mem_flatten.1 hy
      obtain ⟨c, _, rfl⟩ := List.mem_map.1 hr
      simp [eVB] at hy
      rcases hy with rfl | rfl | rfl <;> rfl
    generalize (rowsVB (insVB l i x)).flatten = W at *
    generalize (rowsVB (l.take i)).flatten = P1 at *
    generalize (rowsVB (l.drop i)).flatten = Q at *
    have hx3 : (eVB x).length = 3 := rfl
    have hq1 : (A.drop (i * 3)).take ((l.length - i) * 3) = Q := by rw [hA2, ← hP, List.drop_left, ← hQl, List.take_left]
    have hq2 : ((A.map dead1).drop (i * 3)).take ((l.length - i) * 3) = Q := by rw [← List.map_drop, ← List.map_take, hq1, hQd]
    have ht1 : ∀ r : List AV, [r].take (l.length + 1 - i) = [r] := fun r => List.take_of_length_le (by simp; omega)
    have ht2 : [3].take (l.length + 1 - i) = [3] := List.take_of_length_le (by simp; omega)
    have w3 : IntKind.i64.wrap ((i : Int) + 1) = ((i + 1 : Nat) : Int) := by rw [w64 (by omega) (by omega)]; omega
    have l1 : i < l.length + 1 := by omega
    have l1' : (i : Int) < (l.length : Int) + 1 := by omega
    have l2 : i + 1 < l.length + 1 := by omega
    have l2' : (i : Int) + 1 < (l.length : Int) + 1 := by omega
    have l2'' : (i : Int) + 1 ≤ (l.length : Int) := by omega
    have l3 : (0 : Int) ≤ (i : Int) + 1 := by omega
    by_cases hroom : l.length + 1 ≤ cap
    · have hr' : ¬ (cap : Int) < (l.length : Int) + 1 := by omega
      have hr2 : (l.length : Int) + 1 ≤ (cap : Int) := by omega
      have hr3 : (l.length : Int) + 1 ≤ 281474976710656 := by omega
      have hr4 : (0 : Int) < (l.length : Int) + 1 := by omega
      simp -implicitDefEqProofs [eVB, hne, hcl, hil, hil', hlt, hlt', hle, w1]
      intro _
      refine capSm (e := (89, 3, 40)) (b := b) (o := 0) (n := l.length) (c := cap) (by simp) (by simp) ?_
      simp -implicitDefEqProofs [eVB, hne, hcl, hil, hil', hlt, hlt', hle, w1, hr', hr2, hr3, hr4]
      simp -implicitDefEqProofs [l1, l1', l2, l2', l2'', l3, w3]
      refine CallK.mh (h := one b A) (MSpec.overlaps (tS := 31) (tR := 4) (e := 89) (sz := 3) (by_ := 40) (tag := .no) (rows := [eVB x]) (b := b) (off := (i + 1) * 3) (n := l.length - i) (c := cap - (i + 1)) (cells := A) Tryz.func191 (by kernel_rfl) (by kernel_rfl) (by kernel_rfl) (by kernel_rfl) (by simp) (by omega) (by simp) (by simp [eVB]) (one_self _ _)) (by simp [eVB]) (SubH_one.2 (by simp [Weak.refl])) ?_
      rintro _ h' H ⟨rfl, rfl⟩ - hH -
      have k1 := hH b _ (one_self _ _)
      clear hH
      have hroom2 : Q.length + sp.length = cap * 3 - i * 3 := by
        rw [hA2, List.length_append, List.length_append, hP] at hcl; omega
      have hov := lay_backVB P1 (Q ++ sp) (eVB x) Q (by rw [List.length_append, hroom2, hx3]; omega)
      rw [hP, hx3, ← hA2, show i * 3 + 3 = (i + 1) * 3 by omega] at hov
      obtain ⟨C1, hC1⟩ : ∃ C, overlay A ((i + 1) * 3) Q = C := ⟨_, rfl⟩
      have hC1l : C1.length = cap * 3 := by
        rw [← hC1]; unfold overlay
        rw [List.length_append, List.length_append, List.length_take, List.length_drop, hcl, hQl]; omega
      rw [hC1] at hov
      obtain ⟨C2, hC2⟩ : ∃ C, overlay C1 (i * 3) (eVB x) = C := ⟨_, rfl⟩
      rw [hC2] at hov
      have hC2' := hC2
      have hmin : min (l.length + 1 - i) (l.length - i) = l.length - i := by omega
      simp [overlay, eVB] at hC1 hC2
      simp -implicitDefEqProofs
      refine regionK.modes [b] [.q, .q, .q, .q, .r, .q, .q, .r, .l] follows_mixed (by kernel_rfl) ?_
      simp -implicitDefEqProofs [l1, l1', l2, l2', l2'', l3, hlt, hlt', hr4, hcl, w3, maskH, k1, hq1, hq2, hQd, hmin, hC1]
      refine ⟨⟨by omega, by omega, fun y hy => hQc y hy⟩, ?_⟩
      simp -implicitDefEqProofs [l1, l1', ht1, ht2, hC1l, hC2]
      have hov2 : C2 = W ++ (Q ++ sp).drop (3 + Q.length) := by rw [hov, hins]
      have hC2l : C2.length = cap * 3 := by
        rw [← hC2']; unfold overlay
        rw [List.length_append, List.length_append, List.length_take, List.length_drop, hC1l, hx3]; omega
      have hWl : W.length = (l.length + 1) * 3 := by
        rw [hins, List.length_append, List.length_append, hP, hx3, hQl]; omega
      refine ⟨by omega, one b C2, SubH_one.2 (by simp [Weak.refl]), b, cap, ⟨rfl, rfl⟩, _, by rw [hov2], ?_⟩
      have := congrArg List.length hov2
      rw [List.length_append, hC2l, hWl] at this
      omega
    · have hr' : (cap : Int) < (l.length : Int) + 1 := by omega
      simp -implicitDefEqProofs [eVB, hne, hcl, hil, hil', hlt, hlt', hle, w1]
      intro _
      refine capSm (e := (89, 3, 40)) (b := b) (o := 0) (n := l.length) (c := cap) (by simp) (by simp) ?_
      simp -implicitDefEqProofs [eVB, hne, hcl, hil, hil', hlt, hlt', hle, w1, hr']
      have w2 : IntKind.i64.wrap ((l.length : Int) + 1 - (i : Int)) = ((l.length + 1 - i : Nat) : Int) := by rw [w64 (by omega) (by omega)]; omega
      have hsl : (if 0 < i then some (AV.sm b 0 i cap) else if 0 = (i : Int) then some (AV.sm b 0 0 cap) else none) = some (.sm b 0 i cap) := by
        by_cases h : 0 < i
        · rw [if_pos h]
        · have h2 : i = 0 := by omega
          subst h2; simp
      have hik : i + (l.length + 1 - i) = l.length + 1 := by omega
      simp -implicitDefEqProofs [hsl, w2]
      refine zerosSm (e := 89) (sz := 3) (by_ := 40) (ku := .i64) (z := [eI 0, eI 0, .sl .no []]) (l.length + 1 - i) b i cap A (by decide) (by simp) (by simp) (by simp) rfl (by omega) (by omega) (by simp) (by simp [w1, w2]) (by simp) hcl (by omega) (by omega) (by omega) fun b' c' spare hb' hc' hsp' => ?_
      have nb : ¬ b' = b := by rintro rfl; simp at hb'
      have nb' : ¬ b = b' := fun h => nb h.symm
      have hB : ((A.take (i * 3)).map dead1 ++ spare).length = c' * 3 := by
        rw [List.length_append, List.length_map, List.length_take]; omega
      rw [hik] at hc' ⊢
      have hB2 : (A.take (i * 3)).map dead1 ++ spare = P1 ++ spare := by rw [hA2, ← hP, List.take_left, hPd]
      rw [hB2] at hB ⊢
      have hov := lay_twiceVB P1 spare (eVB x) Q
      rw [hP, hx3] at hov
      have hsl2 : spare.length = c' * 3 - i * 3 := by rw [List.length_append, hP] at hB; omega
      obtain ⟨C1, hC1⟩ : ∃ C, overlay (P1 ++ spare) (i * 3) (eVB x) = C := ⟨_, rfl⟩
      have hC1l : C1.length = c' * 3 := by
        rw [← hC1]; unfold overlay
        rw [List.length_append, List.length_append, List.length_take, List.length_drop, hB, hx3]; omega
      rw [hC1] at hov
      rw [show i * 3 + 3 = (i + 1) * 3 by omega] at hov
      generalize P1 ++ spare = B at *
      obtain ⟨C2, hC2⟩ : ∃ C, overlay C1 ((i + 1) * 3) Q = C := ⟨_, rfl⟩
      rw [hC2] at hov
      have hC2' := hC2
      simp [overlay, eVB] at hC1 hC2
      simp -implicitDefEqProofs [nb, nb', l1, l1', hB, ht1, ht2, hC1]
      refine ⟨by omega, ?_⟩
      refine regionK.modes [b', b] [.q, .q, .q, .q, .r, .q, .q, .r, .l] follows_mixed (by kernel_rfl) ?_
      simp -implicitDefEqProofs [nb, nb', l1, l1', l2, l2', l2'', l3, hlt, hlt', hB, hcl, w3, maskH, hC1l, hq1, hq2, hQd, hC2]
      have hov2 : C2 = W ++ spare.drop ((eVB x).length + Q.length) := by rw [hov, hins, hx3]
      have hC2l : C2.length = c' * 3 := by
        rw [← hC2']; unfold overlay
        rw [List.length_append, List.length_append, List.length_take, List.length_drop, hC1l, hQl]; omega
      have hWl : W.length = (l.length + 1) * 3 := by
        rw [hins, List.length_append, List.length_append, hP, hx3, hQl]; omega
      refine ⟨⟨by omega, by omega, fun y hy => hQc y hy⟩, one b' C2, SubH_one.2 (by simp [Weak.refl]), b', c', ⟨rfl, rfl⟩, _, by rw [hov2], ?_⟩
      have := congrArg List.length hov2
      rw [List.length_append, hC2l, hWl] at this
      omega
end Go.Proofs.YtjbbfiagijjdoaaGreat

/- Contracts: a list with something put in its place (api.ViewBook). Printed by sort/gen.py. No condition. -/
set_option linter.unusedSimpArgs false
set_option linter.unusedVariables false
set_option maxRecDepth 10000
namespace Go.Proofs.YtjbbfiagijjdoaaGreat
open Go Go.Rw Go.Proofs
-- a goal is never to be run by the elaborator
attribute [local irreducible] awp aops aop aopsE aeff

theorem putKVB_new {l : List PVB} {x : PVB} (hs : sortK keyVB l) (hh : hasK keyVB l (keyVB x) = false) : putK keyVB l x = insVB l (posK keyVB l (keyVB x)) x := by
  obtain ⟨h1, h2⟩ := take_posK hs (keyVB x)
  unfold putK insVB
  rw [h1, h2]
  congr 2
  refine List.filter_congr fun y hy => ?_
  have : ¬ keyVB y = keyVB x := fun h => by
    have h3 : hasK keyVB l (keyVB x) = true := by rw [hasK, List.any_eq_true]; exact ⟨y, hy, by simpa using h⟩
    rw [hh] at h3; simp at h3
  by_cases h : keyVB x < keyVB y
  · have : ¬ keyVB y < keyVB x := by omega
    simp [h, this]
  · have : keyVB y < keyVB x := by omega
    simp [h, this]
theorem putKVB_old {l : List PVB} {x : PVB} (hs : sortK keyVB l) (hh : hasK keyVB l (keyVB x) = true) : putK keyVB l x = l.set (posK keyVB l (keyVB x)) x ∧ posK keyVB l (keyVB x) < l.length := by
  obtain ⟨h1, h2⟩ := take_posK hs (keyVB x)
  rcases hasK_at hs (keyVB x) with ⟨y, hy, hk, _⟩ | ⟨_, h3⟩
  · have hlt : posK keyVB l (keyVB x) < l.length := by
      rcases Nat.lt_or_ge (posK keyVB l (keyVB x)) l.length with h | h
      · exact h
      · rw [List.getElem?_eq_none h] at hy; simp at hy
    refine ⟨?_, hlt⟩
    rw [List.set_eq_take_append_cons_drop, if_pos hlt, h1]
    unfold putK
    congr 2
    have hd : l.drop (posK keyVB l (keyVB x)) = y :: l.drop (posK keyVB l (keyVB x) + 1) := by
      rw [List.drop_eq_getElem_cons hlt]; rw [List.getElem?_eq_getElem hlt] at hy; rw [Option.some.inj hy]
    have hsd : (l.drop (posK keyVB l (keyVB x))).Pairwise fun a b => keyVB a < keyVB b := List.Pairwise.sublist (List.drop_sublist _ _) hs
    rw [hd, List.pairwise_cons] at hsd
    have e1 : l.filter (fun z => decide (keyVB x < keyVB z)) = (l.filter (fun z => decide (¬ keyVB z < keyVB x))).filter (fun z => decide (keyVB x < keyVB z)) := by
      rw [List.filter_filter]
      refine List.filter_congr fun z _ => ?_
      by_cases h : keyVB x < keyVB z
      · have : ¬ keyVB z < keyVB x := by omega
        simp [h, this]
      · simp [h]
    rw [e1, ← h2, hd, List.filter_cons_of_neg (by simp [hk])]
    refine List.filter_eq_self.2 fun z hz => ?_
    have := hsd.1 z hz
    simp; omega
  · rw [hh] at h3; simp at h3
theorem putVB_spec (l : List PVB) (x : PVB) (hs : sortK keyVB l) (hl : l.length ≤ 1000000) (hr : ∀ y ∈ l, rightV y.view = true) (hx : rightV x.view = true) :
    ASpec Tryz.prog 100 [.agg [.fn 88 []], .sl .no (rowsVB l), .agg (eVB x)] (fun r => ∃ tag, r = .sl tag (rowsVB (putK keyVB l x))) := by
  refine ASpec.of_awpS Tryz.func100 (by kernel_rfl) rfl (by rw [Tryz.results100]) Tryz.ntmps100 ?_
  simp -implicitDefEqProofs [eVB]
  refine allocK.intro (fun b1 hb1 => ?_)
  simp -implicitDefEqProofs
  refine allocK.intro (fun b2 hb2 => ?_)
  have n12 : ¬ b1 = b2 := by rintro rfl; simp at hb2
  have n21 : ¬ b2 = b1 := fun h => n12 h.symm
  simp -implicitDefEqProofs [n12, n21]
  refine regionK.intro 12 follows_mixed (by kernel_rfl) ?_
  simp -implicitDefEqProofs [n12, n21]
  refine CallQ.with (ofVB_spec x) (by simp [eVB]) ?_
  simp -implicitDefEqProofs [n12, n21]
  refine CallQ.with (placeVB_spec l x.view hs (by omega) hr hx) (by simp [eV]) ?_
  have hpl := posK_le (key := keyVB) l (nameV x.view)
  simp -implicitDefEqProofs [n12, n21]
  have ek : nameV x.view = keyVB x := rfl
  rw [ek] at *
  have hcl := cloneVB_own l (by omega)
  refine CallK.own hcl (by simp) ?_
  rintro r (⟨tag, htag, rfl, hl0⟩ | ⟨hne, rfl⟩)
  · left
    refine ⟨tag, htag, rfl, ?_⟩
    subst hl0
    simp -implicitDefEqProofs [hasK, posK, n12, n21]
    refine CallK.fresh (insertVB_mn x) (by simp [eVB]) ?_
    rintro _ h' H ⟨b, c, sp, rfl, rfl, hsp⟩ - hH -
    have k1 := hH b _ (one_self _ _)
    clear hH
    simp -implicitDefEqProofs
    refine shiftK.freeze (b := b) (len := 1) (cap := c) 6 89 (rowsVB [x]) (by simp) (cells := eVB x ++ sp) k1 (by simpa [rowsVB] using chunksVB [x] sp) (by simp) ?_ ?_
    · rw [List.length_append, show (eVB x).length = 3 from rfl]; exact hsp
    have hp : putK keyVB [] x = [x] := rfl
    simp -implicitDefEqProofs [hp]
  · right
    refine ⟨_, _, _, _, rfl, hne, .inl rfl, fun b cap spare hb hcap hsp => ?_⟩
    have n1 : ¬ b = b1 := by rintro rfl; simp [n12] at hb
    have n1' : ¬ b1 = b := fun h => n1 h.symm
    have n2 : ¬ b = b2 := by rintro rfl; simp at hb
    have n2' : ¬ b2 = b := fun h => n2 h.symm
    have ed := dead2VB l
    have hl0 : 0 < l.length := by
      cases l with
      | nil => exact absurd rfl hne
      | cons => simp
    have hsp2 : l.length * 3 + (spare.map AV.v).length = cap * 3 := by simp at hsp ⊢; omega
    have hcl2 : ((rowsVB l).flatten ++ spare.map AV.v).length = cap * 3 := by rw [List.length_append, flenVB]; exact hsp2
    cases hh : hasK keyVB l (keyVB x)
    · simp -implicitDefEqProofs [n12, n21, n1, n1', n2, n2', ed, hh]
      refine CallK.mh (insertVB_sm l (posK keyVB l (keyVB x)) b cap (spare.map AV.v) x hl0 hpl (by omega) hsp2) (by simp [eVB]) (SubH_one.2 (by simp [Weak.refl])) ?_
      rintro _ h' H ⟨b', c', sp', rfl, rfl, hlen⟩ - hH -
      have k1 := hH b' _ (one_self _ _)
      clear hH
      have hil : (insVB l (posK keyVB l (keyVB x)) x).length = l.length + 1 := by
        unfold insVB
        rw [List.length_append, List.length_take, List.length_cons, List.length_drop]; omega
      rw [putKVB_new hs hh]
      generalize insVB l (posK keyVB l (keyVB x)) x = L at *
      simp -implicitDefEqProofs
      refine shiftK.freeze (b := b') (len := l.length + 1) (cap := c') 6 89 (rowsVB L) (by simp) k1 (chunksVB L sp') (by simp [hil]) ?_ ?_
      · rw [List.length_append, flenVB, hil]; exact hlen
      simp -implicitDefEqProofs
    · obtain ⟨hpe, hlt⟩ := putKVB_old hs hh
      rw [hpe]
      have hset : overlay ((rowsVB l).flatten ++ spare.map AV.v) (posK keyVB l (keyVB x) * 3) (eVB x) = (rowsVB (l.set (posK keyVB l (keyVB x)) x)).flatten ++ spare.map AV.v := by
        rw [flat_set (rowsVB_one l) rfl (by simpa using hlt)]
        simp [rowsVB, List.map_set]
      have hfit : posK keyVB l (keyVB x) * 3 + 3 ≤ ((rowsVB l).flatten ++ spare.map AV.v).length := flat_fits (rowsVB_one l) (by simpa using hlt)
      generalize posK keyVB l (keyVB x) = p at *
      have hlt' : (p : Int) < (l.length : Int) := by omega
      obtain ⟨L, hL⟩ : ∃ L, l.set p x = L := ⟨_, rfl⟩
      have hLl : L.length = l.length := by rw [← hL, List.length_set]
      rw [hL] at hset ⊢
      have hcol : ((rowsVB L).flatten ++ spare.map AV.v).length = cap * 3 := by rw [List.length_append, flenVB, hLl]; exact hsp2
      have hck := chunksVB L (spare.map AV.v)
      generalize (rowsVB L).flatten ++ spare.map AV.v = C2 at *
      simp -implicitDefEqProofs [n12, n21, n1, n1', n2, n2', ed, hh]
      generalize (rowsVB l).flatten ++ spare.map AV.v = C1 at *
      simp [overlay, eVB] at hset
      simp -implicitDefEqProofs [n12, n21, n1, n1', n2, n2', hlt, hlt', hfit, hset]
      refine shiftK.freeze (b := b) (len := l.length) (cap := cap) 6 89 (rowsVB L) (by simp) (by simp) hck (by simp [hLl]) hcol ?_
      simp -implicitDefEqProofs
end Go.Proofs.YtjbbfiagijjdoaaGreat

/- Contracts: where something stands by its view (api.ViewCells). Printed by sort/gen.py. No condition. -/
set_option linter.unusedSimpArgs false
set_option linter.unusedVariables false
set_option maxRecDepth 10000
namespace Go.Proofs.YtjbbfiagijjdoaaGreat
open Go Go.Rw Go.Proofs
-- a goal is never to be run by the elaborator
attribute [local irreducible] awp aops aop aopsE aeff

@[simp] theorem vTfVC : vT Tryz.prog 118 = some (1, false) := by kernel_rfl
def keyVC (x : PVC) : Int := nameV x.view
def rowsVC (l : List PVC) : List (List AV) := l.map eVC
@[simp] theorem rowsVC_length (l : List PVC) : (rowsVC l).length = l.length := by simp [rowsVC]
@[simp] theorem rowsVC_get (l : List PVC) (i : Nat) : (rowsVC l)[i]? = (l[i]?).map eVC := by simp [rowsVC]
@[simp] theorem rowsVC_nil : rowsVC [] = [] := rfl
@[simp] theorem rowsVC_append (l m : List PVC) : rowsVC l ++ rowsVC m = rowsVC (l ++ m) := by simp [rowsVC]
theorem rowsVC_one (l : List PVC) : ∀ r ∈ rowsVC l, r.length = 3 := by
  intro r hr
  obtain ⟨c, _, rfl⟩ := List.mem_map.1 hr
  rfl
@[simp] theorem rowsVC_rows (l : List PVC) : (∀ r : List AV, r ∈ rowsVC l → r.length = 3) ↔ True := iff_of_true (rowsVC_one l) trivial
theorem ofVC_spec (x : PVC) : ASpec Tryz.prog 93 [.agg (eVC x)] (· = .agg (eV x.view)) := by
  refine ASpec.of_awp Tryz.func93 (by kernel_rfl) rfl (by rw [Tryz.results93]) Tryz.ntmps93 ?_
  simp -implicitDefEqProofs [eVC]
  refine allocK.intro (fun b1 hb1 => ?_)
  simp -implicitDefEqProofs
  refine allocK.intro (fun b2 hb2 => ?_)
  have n12 : ¬ b1 = b2 := by rintro rfl; simp at hb2
  have n21 : ¬ b2 = b1 := fun h => n12 h.symm
  simp -implicitDefEqProofs [n12, n21, eV]
theorem shelvedVC_spec : ASpec Tryz.prog 92 [.fn 93 []] (· = .agg [.fn 93 []]) := by
  refine ASpec.of_awp Tryz.func92 (by kernel_rfl) rfl (by rw [Tryz.results92]) Tryz.ntmps92 ?_
  simp -implicitDefEqProofs
  refine allocK.intro (fun b1 hb1 => ?_)
  simp -implicitDefEqProofs
theorem placeKeyVC_spec (x : PVC) (b : Nat) (n : Int) (h : rightV x.view = true) : MSpec Tryz.prog 152 [.agg (eVC x), eI n, .ptr b 0] (one b [.fn 93 []]) (fun r h' => r = eI (cmpI (keyVC x) n) ∧ h' = one b [.fn 93 []]) := by
  refine MSpec.of_awp Tryz.func152 (by kernel_rfl) rfl (by rw [Tryz.results152]) Tryz.ntmps152 ?_
  simp -implicitDefEqProofs [eVC]
  refine allocK.intro (fun b1 hb1 => ?_)
  have n1 : ¬ b1 = b := by rintro rfl; simp at hb1
  have n2 : ¬ b = b1 := fun h => n1 h.symm
  simp -implicitDefEqProofs [n1, n2]
  refine CallK.with (ofVC_spec x) (by simp [eVC]) ?_
  simp -implicitDefEqProofs [eV]
  refine CallK.with (change_name x.view h) (by simp [eV]) ?_
  simp -implicitDefEqProofs
  refine CallK.eq (compare_int (nameV x.view) n) ?_
  simp -implicitDefEqProofs [n1, n2, keyVC]
def BsVCI (l : List PVC) (n : Int) (g : FuncId) (b : Nat) (c : List AV) (t : Nat → AV) (h : Nat → Option (List AV)) : Prop := ∃ i j : Nat, t 0 = .sl .no (rowsVC l) ∧ t 1 = eI n ∧ t 2 = .fn g [.ptr b 0] ∧ t 8 = eI l.length ∧ t 9 = eI i ∧ t 10 = eI j ∧ i ≤ posK keyVC l n ∧ posK keyVC l n ≤ j ∧ j ≤ l.length ∧ h b = some c
def BsVCM (l : List PVC) (n : Int) (g : FuncId) (b : Nat) (c : List AV) (t : Nat → AV) (h : Nat → Option (List AV)) : Prop := t 0 = .sl .no (rowsVC l) ∧ t 1 = eI n ∧ t 2 = .fn g [.ptr b 0] ∧ t 8 = eI l.length ∧ t 9 = eI (posK keyVC l n) ∧ h b = some c
theorem bsearchVC_spec (g : FuncId) (b : Nat) (c : List AV) (l : List PVC) (n : Int) (hs : sortK keyVC l) (hl : l.length ≤ 1000000000) (hf : ∀ x ∈ l, MSpec Tryz.prog g [.agg (eVC x), eI n, .ptr b 0] (one b c) (fun r h' => r = eI (cmpI (keyVC x) n) ∧ h' = one b c)) :
    MSpec Tryz.prog 151 [.sl .no (rowsVC l), eI n, .fn g [.ptr b 0]] (one b c) (fun r h' => r = .tup [eI (posK keyVC l n), .v (.bool (hasK keyVC l n))] ∧ h' = one b c) := by
  have hp := posK_le (key := keyVC) l n
  refine MSpec.of_awp Tryz.func151 (by kernel_rfl) rfl (by rw [Tryz.results151]) Tryz.ntmps151 ?_
  simp -implicitDefEqProofs
  intro _
  refine loopK.post (BsVCI l n g b c) (fun t => natOf (t 10) - natOf (t 9)) (BsVCM l n g b c) ?_ ?_ ?_
  · exact ⟨0, l.length, by simp, by simp, by simp, by simp, by simp, by simp, by omega, hp, by omega, by simp⟩
  · rintro t hh ⟨i, j, g0, g1, g2, g8, g9, g10, hi, hj, hjl, hb⟩
    have hm9 : natOf (t 9) = i := by rw [g9]; simp
    have hm10 : natOf (t 10) = j := by rw [g10]; simp
    by_cases hlt : i < j
    · have hlt' : (i : Int) < (j : Int) := by omega
      have w1 : IntKind.i64.wrap ((i : Int) + (j : Int)) = (i : Int) + (j : Int) := w64 (by omega) (by omega)
      have w2 : IntKind.u64.wrap ((i : Int) + (j : Int)) = (i : Int) + (j : Int) := by
        simp [IntKind.wrap, IntKind.bits, IntKind.signed]; omega
      obtain ⟨m, hm⟩ : ∃ m : Nat, m = (i + j) / 2 := ⟨_, rfl⟩
      have w3 : ((i : Int) + (j : Int)) / 2 = (m : Int) := by omega
      have w4 : IntKind.i64.wrap (m : Int) = (m : Int) := w64 (by omega) (by omega)
      have w4' : IntKind.u64.wrap (m : Int) = (m : Int) := by
        simp [IntKind.wrap, IntKind.bits, IntKind.signed]; omega
      have w5 : IntKind.i64.wrap ((m : Int) + 1) = ((m + 1 : Nat) : Int) := by rw [w64 (by omega) (by omega)]; omega
      have hml : m < l.length := by omega
      obtain ⟨x, hx⟩ : ∃ x, l[m]? = some x := ⟨l[m], by simp [hml]⟩
      have hpk := posK_lt hs (n := n) hx
      have s1 : Int.fdiv ((i : Int) + (j : Int)) (2 ^ min 1 IntKind.u64.bits) = (m : Int) := by
        have := shr_u64 (i + j) 1 (by omega)
        rw [hm]
        simpa using this
      have hml' : (m : Int) < (l.length : Int) := by omega
      simp -implicitDefEqProofs [g0, g1, g2, g9, g10, hlt', hlt, w1, w2, w3, w4, w4', hx, hml', eVC, aNum_shr, s1]
      refine CallK.one (hf x (List.mem_of_getElem? hx)) (by simp [eVC]) (by simp [hb, Weak.refl]) ?_
      have hcm : (cmpI (keyVC x) n < 0) ↔ keyVC x < n := by
        unfold cmpI
        by_cases h1 : keyVC x < n
        · simp [h1]
        · by_cases h2 : n < keyVC x <;> simp [h1, h2]
      by_cases hk : keyVC x < n
      · have hk1 := hcm.2 hk
        have hk2 := hpk.1 hk
        simp -implicitDefEqProofs [hk1, w5]
        exact ⟨⟨m + 1, j, by simp [g0], by simp [g1], by simp [g2], by simp [g8], by simp, by simp [g10], by omega, hj, hjl, by simp⟩, by first | omega | (simp [g9, g10]; omega)⟩
      · have hk1 : ¬ cmpI (keyVC x) n < 0 := fun h => hk (hcm.1 h)
        have hk2 : posK keyVC l n ≤ m := by
          rcases Nat.lt_or_ge m (posK keyVC l n) with h | h
          · exact absurd (hpk.2 h) hk
          · exact h
        simp -implicitDefEqProofs [hk1]
        exact ⟨⟨i, m, by simp [g0], by simp [g1], by simp [g2], by simp [g8], by simp [g9], by simp, hi, hk2, by omega, by simp⟩, by first | omega | (simp [g9, g10]; omega) | (simp [g9, g10, upd]; omega)⟩
    · have hlt' : ¬ (i : Int) < (j : Int) := by omega
      obtain rfl : i = posK keyVC l n := by omega
      simp -implicitDefEqProofs [g9, g10, hlt', hlt]
      exact ⟨by simp [g0], by simp [g1], by simp [g2], by simp [g8], by simp [g9], hb⟩
  rintro t hh ⟨g0, g1, g2, g8, g9, hb⟩
  have hcz : ∀ x : PVC, (cmpI (keyVC x) n = 0) ↔ keyVC x = n := fun x => by
    unfold cmpI
    by_cases h1 : keyVC x < n
    · have h3 : ¬ keyVC x = n := by omega
      simp [h1, h3]
    · by_cases h2 : n < keyVC x
      · have h3 : ¬ keyVC x = n := by omega
        simp [h1, h2, h3]
      · have h3 : keyVC x = n := by omega
        simp [h3]
  have hat := hasK_at hs n
  generalize posK keyVC l n = p at *
  by_cases hlt : p < l.length
  · have hlt' : (p : Int) < (l.length : Int) := by omega
    obtain ⟨x, hx⟩ : ∃ x, l[p]? = some x := ⟨l[p], by simp [hlt]⟩
    simp -implicitDefEqProofs [g0, g1, g2, g8, g9, hlt', hx, eVC]
    refine CallK.one (hf x (List.mem_of_getElem? hx)) (by simp [eVC]) (by simp [hb, Weak.refl]) ?_
    by_cases hk : keyVC x = n
    · have h1 := (hcz x).2 hk
      have h2 : hasK keyVC l n = true := by
        rcases hat with ⟨y, h3, h4, h5⟩ | ⟨h3, h4⟩
        · exact h5
        · exact absurd hk (h3 x hx)
      simp -implicitDefEqProofs [h1, h2, g9, hb, Weak.refl]
    · have h1 : ¬ cmpI (keyVC x) n = 0 := fun h => hk ((hcz x).1 h)
      have h2 : hasK keyVC l n = false := by
        rcases hat with ⟨y, h3, h4, h5⟩ | ⟨h3, h4⟩
        · rw [hx] at h3; cases h3; exact absurd h4 hk
        · exact h4
      simp -implicitDefEqProofs [h1, h2, g9, hb, Weak.refl]
  · have hlt' : ¬ (p : Int) < (l.length : Int) := by omega
    have h2 : hasK keyVC l n = false := by
      rcases hat with ⟨y, h3, h4, h5⟩ | ⟨h3, h4⟩
      · rw [List.getElem?_eq_none (by omega)] at h3; simp at h3
      · exact h4
    simp -implicitDefEqProofs [g0, g1, g2, g8, g9, hlt', h2, hb, Weak.refl]
theorem placeVC_spec (l : List PVC) (v : PView) (hs : sortK keyVC l) (hl : l.length ≤ 1000000000) (hr : ∀ x ∈ l, rightV x.view = true) (hv : rightV v = true) :
    ASpec Tryz.prog 94 [.agg [.fn 93 []], .sl .no (rowsVC l), .agg (eV v)] (· = .tup [eI (posK keyVC l (nameV v)), .v (.bool (hasK keyVC l (nameV v)))]) := by
  refine ASpec.of_awp Tryz.func94 (by kernel_rfl) rfl (by rw [Tryz.results94]) Tryz.ntmps94 ?_
  simp -implicitDefEqProofs [eV]
  refine allocK.intro (fun b1 hb1 => ?_)
  simp -implicitDefEqProofs
  refine allocK.intro (fun b2 hb2 => ?_)
  have n12 : ¬ b1 = b2 := by rintro rfl; simp at hb2
  have n21 : ¬ b2 = b1 := fun h => n12 h.symm
  simp -implicitDefEqProofs [n12, n21]
  refine CallK.with (change_name v hv) (by simp [eV]) ?_
  simp -implicitDefEqProofs [n12, n21]
  refine CallK.one (bsearchVC_spec 152 b1 [.fn 93 []] l (nameV v) hs hl (fun x hx => placeKeyVC_spec x b1 (nameV v) (hr x hx))) rfl (by simp [n12, Weak.refl]) ?_
  simp -implicitDefEqProofs
end Go.Proofs.YtjbbfiagijjdoaaGreat

/- Contracts: something is put in its place (api.ViewCells). Printed by sort/gen.py. No condition. -/
set_option linter.unusedSimpArgs false
set_option linter.unusedVariables false
set_option maxRecDepth 10000
namespace Go.Proofs.YtjbbfiagijjdoaaGreat
open Go Go.Rw Go.Proofs
-- a goal is never to be run by the elaborator
attribute [local irreducible] awp aops aop aopsE aeff

theorem deadVC (l : List PVC) : (rowsVC l).flatten.map dead1 = (rowsVC l).flatten := by
  induction l with
  | nil => rfl
  | cons x l ih => simp [rowsVC, eVC, dead1] at *; try exact ih
theorem dead2VC (l : List PVC) : (rowsVC l).map (List.map dead1) = rowsVC l := by
  induction l with
  | nil => rfl
  | cons x l ih => simp [rowsVC, eVC, dead1] at *; try exact ih
theorem flenVC (l : List PVC) : (rowsVC l).flatten.length = l.length * 3 := by
  rw [flat_len (rowsVC_one l)]; simp
theorem chunksVC (l : List PVC) (sp : List AV) : chunks ((rowsVC l).flatten ++ sp) (rowsVC l) 3 := by
  refine ⟨rowsVC_one l, ?_, ?_, ?_⟩
  · rw [show (rowsVC l).length * 3 = (rowsVC l).flatten.length by rw [flenVC]; simp, List.take_left, deadVC]
  · rw [List.length_append, flenVC]; simp
  · intro r hr x hx
    obtain ⟨c, _, rfl⟩ := List.mem_map.1 hr
    simp [eVC] at hx
    rcases hx with rfl | rfl | rfl <;> rfl
def ClVCR (l : List PVC) (r : AV) : Prop := (∃ tag, (tag = .nil ∨ tag = .full) ∧ r = .sl tag [] ∧ l = []) ∨ (rowsVC l ≠ [] ∧ r = .sl (.live 91 3 true) (rowsVC l))
theorem cloneVC_own (l : List PVC) (hl : l.length * 40 ≤ 140737488355328) : ASpec Tryz.prog 127 [.sl .no (rowsVC l)] (ClVCR l) := by
  refine ASpec.of_awp Tryz.func127 (by kernel_rfl) rfl (by rw [Tryz.results127]) Tryz.ntmps127 ?_
  simp -implicitDefEqProofs
  refine nilK.intro (fun h => ?_) ?_
  · have h' : l = [] := by simpa [rowsVC] using h
    simp -implicitDefEqProofs [h]; exact .inl ⟨_, .inl rfl, rfl, h'⟩
  · simp -implicitDefEqProofs [hl]
    by_cases h : l = []
    · subst h; exact .inl ⟨_, .inr rfl, rfl, rfl⟩
    · have h' : rowsVC l ≠ [] := by simpa [rowsVC] using h
      exact .inr ⟨h', by rw [appTag_full h']⟩
theorem insertVC_mn (x : PVC) : MSpec Tryz.prog 158 [.mn, eI 0, .sl .no [eVC x]] (fun _ => none) (fun r h' => ∃ b c sp, r = .sm b 0 1 c ∧ h' = one b (eVC x ++ sp) ∧ 3 + sp.length = c * 3) := by
  refine MSpec.of_awp Tryz.func158 (by kernel_rfl) rfl (by rw [Tryz.results158]) Tryz.ntmps158 ?_
  simp -implicitDefEqProofs [eVC]
  refine growMnK.intro (fun h => by simp at h) fun _ b c sp hb hc hsp => ?_
  simp -implicitDefEqProofs
  simp at hsp
  exact ⟨_, SubH_one.2 (by simp; exact Weak.refl _), b, c, ⟨rfl, rfl⟩, sp, rfl, by omega⟩
theorem lay_atVC (P T X : List AV) : overlay (P ++ T) P.length X = P ++ X ++ T.drop X.length := by
  unfold overlay
  rw [List.take_left, List.drop_append, List.drop_of_length_le (by omega), List.nil_append, Nat.add_sub_cancel_left]
theorem lay_twiceVC (P T X Y : List AV) : overlay (overlay (P ++ T) P.length X) (P.length + X.length) Y = P ++ X ++ Y ++ T.drop (X.length + Y.length) := by
  rw [lay_atVC, ← List.length_append, lay_atVC, List.drop_drop]
theorem lay_backVC (P T R Q : List AV) (h : R.length ≤ T.length) : overlay (overlay (P ++ T) (P.length + R.length) Q) P.length R = P ++ R ++ Q ++ T.drop (R.length + Q.length) := by
  have e : overlay (P ++ T) (P.length + R.length) Q = P ++ (T.take R.length ++ (Q ++ T.drop (R.length + Q.length))) := by
    unfold overlay
    rw [List.take_append, List.take_of_length_le (by omega), Nat.add_sub_cancel_left, List.drop_append, List.drop_of_length_le (by omega), List.nil_append, show P.length + R.length + Q.length - P.length = R.length + Q.length by omega]
    simp only [List.append_assoc]
  rw [e, lay_atVC, List.drop_append, List.drop_of_length_le (by rw [List.length_take]; omega), List.nil_append, List.length_take, Nat.min_eq_left h, Nat.sub_self, List.drop_zero]
  simp only [List.append_assoc]
/-- behind an insertion -/
def insVC (l : List PVC) (i : Nat) (x : PVC) : List PVC := l.take i ++ x :: l.drop i
theorem insertVC_sm (l : List PVC) (i b cap : Nat) (sp : List AV) (x : PVC) (h0 : 0 < l.length) (hi : i ≤ l.length) (hl : l.length ≤ 1000000000) (hsp : l.length * 3 + sp.length = cap * 3) :
    MSpec Tryz.prog 158 [.sm b 0 l.length cap, eI i, .sl .no [eVC x]] (one b ((rowsVC l).flatten ++ sp)) (fun r h' => ∃ b' c' sp', r = .sm b' 0 (l.length + 1) c' ∧ h' = one b' ((rowsVC (insVC l i x)).flatten ++ sp') ∧ (l.length + 1) * 3 + sp'.length = c' * 3) := by
  refine MSpec.of_awp Tryz.func158 (by kernel_rfl) rfl (by rw [Tryz.results158]) Tryz.ntmps158 ?_
  have hlen := flenVC l
  have hcl : ((rowsVC l).flatten ++ sp).length = cap * 3 := by rw [List.length_append, hlen]; exact hsp
  have w1 : IntKind.i64.wrap ((l.length : Int) + 1) = ((l.length + 1 : Nat) : Int) := by rw [w64 (by omega) (by omega)]; omega
  generalize hA : (rowsVC l).flatten ++ sp = A at *
  have hne : ¬ l = [] := by rintro rfl; simp at h0
  by_cases hil : i = l.length
  · subst hil
    simp -implicitDefEqProofs [eVC, hne, hcl]
    intro _
    refine ⟨by omega, growSmK.intro fun b' c' spare hb' hc' hsp' => ?_⟩
    have htk : (A.take (l.length * 3)).map dead1 = (rowsVC l).flatten := by rw [← hA, ← hlen, List.take_left, deadVC]
    have hfin : (A.take (l.length * 3)).map dead1 ++ [eVC x].flatten.map dead1 ++ spare = (rowsVC (insVC l l.length x)).flatten ++ spare := by
      rw [htk]; simp [insVC, rowsVC, eVC, dead1]
    simp only [eVC] at hfin
    rw [hfin]
    simp -implicitDefEqProofs
    simp at hsp'
    exact ⟨_, SubH_one.2 (by simp; exact Weak.refl _), b', c', ⟨rfl, rfl⟩, spare, rfl, by omega⟩
  · have hlt : i < l.length := by omega
    have hil' : ¬ (i : Int) = (l.length : Int) := by omega
    have hlt' : (i : Int) < (l.length : Int) := by omega
    have hle : i ≤ l.length := hi
    have hti : (l.take i).length = i := by rw [List.length_take]; omega
    have hP : (rowsVC (l.take i)).flatten.length = i * 3 := by rw [flenVC, hti]
    have hQl : (rowsVC (l.drop i)).flatten.length = (l.length - i) * 3 := by rw [flenVC, List.length_drop]
    have hsplit : (rowsVC l).flatten = (rowsVC (l.take i)).flatten ++ (rowsVC (l.drop i)).flatten := by
      rw [← List.flatten_append, rowsVC_append, List.take_append_drop]
    have hins : (rowsVC (insVC l i x)).flatten = (rowsVC (l.take i)).flatten ++ eVC x ++ (rowsVC (l.drop i)).flatten := by
      simp [insVC, rowsVC]
    have hA2 : A = (rowsVC (l.take i)).flatten ++ ((rowsVC (l.drop i)).flatten ++ sp) := by rw [← hA, hsplit, List.append_assoc]
    have hPd := deadVC (l.take i)
    have hQd := deadVC (l.drop i)
    have hQc : ∀ x ∈ (rowsVC (l.drop i)).flatten, cellAV x = true := by
      intro y hy
      obtain ⟨r, hr, hy⟩ := List.mem_flatten.1 hy
      obtain ⟨c, _, rfl⟩ := List.mem_map.1 hr
      simp [eVC] at hy
      rcases hy with rfl | rfl | rfl <;> rfl
    generalize (rowsVC (insVC l i x)).flatten = W at *
    generalize (rowsVC (l.take i)).flatten = P1 at *
    generalize (rowsVC (l.drop i)).flatten = Q at *
    have hx3 : (eVC x).length = 3 := rfl
    have hq1 : (A.drop (i * 3)).take ((l.length - i) * 3) = Q := by rw [hA2, ← hP, List.drop_left, ← hQl, List.take_left]
    have hq2 : ((A.map dead1).drop (i * 3)).take ((l.length - i) * 3) = Q := by rw [← List.map_drop, ← List.map_take, hq1, hQd]
    have ht1 : ∀ r : List AV, [r].take (l.length + 1 - i) = [r] := fun r => List.take_of_length_le (by simp; omega)
    have ht2 : [3].take (l.length + 1 - i) = [3] := List.take_of_length_le (by simp; omega)
    have w3 : IntKind.i64.wrap ((i : Int) + 1) = ((i + 1 : Nat) : Int) := by rw [w64 (by omega) (by omega)]; omega
    have l1 : i < l.length + 1 := by omega
    have l1' : (i : Int) < (l.length : Int) + 1 := by omega
    have l2 : i + 1 < l.length + 1 := by omega
    have l2' : (i : Int) + 1 < (l.length : Int) + 1 := by omega
    have l2'' : (i : Int) + 1 ≤ (l.length : Int) := by omega
    have l3 : (0 : Int) ≤ (i : Int) + 1 := by omega
    by_cases hroom : l.length + 1 ≤ cap
    · have hr' : ¬ (cap : Int) < (l.length : Int) + 1 := by omega
      have hr2 : (l.length : Int) + 1 ≤ (cap : Int) := by omega
      have hr3 : (l.length : Int) + 1 ≤ 281474976710656 := by omega
      have hr4 : (0 : Int) < (l.length : Int) + 1 := by omega
      simp -implicitDefEqProofs [eVC, hne, hcl, hil, hil', hlt, hlt', hle, w1]
      intro _
      refine capSm (e := (91, 3, 40)) (b := b) (o := 0) (n := l.length) (c := cap) (by simp) (by simp) ?_
      simp -implicitDefEqProofs [eVC, hne, hcl, hil, hil', hlt, hlt', hle, w1, hr', hr2, hr3, hr4]
      simp -implicitDefEqProofs [l1, l1', l2, l2', l2'', l3, w3]
      refine CallK.mh (h := one b A) (MSpec.overlaps (tS := 32) (tR := 4) (e := 91) (sz := 3) (by_ := 40) (tag := .no) (rows := [eVC x]) (b := b) (off := (i + 1) * 3) (n := l.length - i) (c := cap - (i + 1)) (cells := A) Tryz.func195 (by kernel_rfl) (by kernel_rfl) (by kernel_rfl) (by kernel_rfl) (by simp) (by omega) (by simp) (by simp [eVC]) (one_self _ _)) (by simp [eVC]) (SubH_one.2 (by simp [Weak.refl])) ?_
      rintro _ h' H ⟨rfl, rfl⟩ - hH -
      have k1 := hH b _ (one_self _ _)
      clear hH
      have hroom2 : Q.length + sp.length = cap * 3 - i * 3 := by
        rw [hA2, List.length_append, List.length_append, hP] at hcl; omega
      have hov := lay_backVC P1 (Q ++ sp) (eVC x) Q (by rw [List.length_append, hroom2, hx3]; omega)
      rw [hP, hx3, ← hA2, show i * 3 + 3 = (i + 1) * 3 by omega] at hov
      obtain ⟨C1, hC1⟩ : ∃ C, overlay A ((i + 1) * 3) Q = C := ⟨_, rfl⟩
      have hC1l : C1.length = cap * 3 := by
        rw [← hC1]; unfold overlay
        rw [List.length_append, List.length_append, List.length_take, List.length_drop, hcl, hQl]; omega
      rw [hC1] at hov
      obtain ⟨C2, hC2⟩ : ∃ C, overlay C1 (i * 3) (eVC x) = C := ⟨_, rfl⟩
      rw [hC2] at hov
      have hC2' := hC2
      have hmin : min (l.length + 1 - i) (l.length - i) = l.length - i := by omega
      simp [overlay, eVC] at hC1 hC2
      simp -implicitDefEqProofs
      refine regionK.modes [b] [.q, .q, .q, .q, .r, .q, .q, .r, .l] follows_mixed (by kernel_rfl) ?_
      simp -implicitDefEqProofs [l1, l1', l2, l2', l2'', l3, hlt, hlt', hr4, hcl, w3, maskH, k1, hq1, hq2, hQd, hmin, hC1]
      refine ⟨⟨by omega, by omega, fun y hy => hQc y hy⟩, ?_⟩
      simp -implicitDefEqProofs [l1, l1', ht1, ht2, hC1l, hC2]
      have hov2 : C2 = W ++ (Q ++ sp).drop (3 + Q.length) := by rw [hov, hins]
      have hC2l : C2.length = cap * 3 := by
        rw [← hC2']; unfold overlay
        rw [List.length_append, List.length_append, List.length_take, List.length_drop, hC1l, hx3]; omega
      have hWl : W.length = (l.length + 1) * 3 := by
        rw [hins, List.length_append, List.length_append, hP, hx3, hQl]; omega
      refine ⟨by omega, one b C2, SubH_one.2 (by simp [Weak.refl]), b, cap, ⟨rfl, rfl⟩, _, by rw [hov2], ?_⟩
      have := congrArg List.length hov2
      rw [List.length_append, hC2l, hWl] at this
      omega
    · have hr' : (cap : Int) < (l.length : Int) + 1 := by omega
      simp -implicitDefEqProofs [eVC, hne, hcl, hil, hil', hlt, hlt', hle, w1]
      intro _
      refine capSm (e := (91, 3, 40)) (b := b) (o := 0) (n := l.length) (c := cap) (by simp) (by simp) ?_
      simp -implicitDefEqProofs [eVC, hne, hcl, hil, hil', hlt, hlt', hle, w1, hr']
      have w2 : IntKind.i64.wrap ((l.length : Int) + 1 - (i : Int)) = ((l.length + 1 - i : Nat) : Int) := by rw [w64 (by omega) (by omega)]; omega
      have hsl : (if 0 < i then some (AV.sm b 0 i cap) else if 0 = (i : Int) then some (AV.sm b 0 0 cap) else none) = some (.sm b 0 i cap) := by
        by_cases h : 0 < i
        · rw [if_pos h]
        · have h2 : i = 0 := by omega
          subst h2; simp
      have hik : i + (l.length + 1 - i) = l.length + 1 := by omega
      simp -implicitDefEqProofs [hsl, w2]
      refine zerosSm (e := 91) (sz := 3) (by_ := 40) (ku := .i64) (z := [eI 0, eI 0, .sl .no []]) (l.length + 1 - i) b i cap A (by decide) (by simp) (by simp) (by simp) rfl (by omega) (by omega) (by simp) (by simp [w1, w2]) (by simp) hcl (by omega) (by omega) (by omega) fun b' c' spare hb' hc' hsp' => ?_
      have nb : ¬ b' = b := by rintro rfl; simp at hb'
      have nb' : ¬ b = b' := fun h => nb h.symm
      have hB : ((A.take (i * 3)).map dead1 ++ spare).length = c' * 3 := by
        rw [List.length_append, List.length_map, List.length_take]; omega
      rw [hik] at hc' ⊢
      have hB2 : (A.take (i * 3)).map dead1 ++ spare = P1 ++ spare := by rw [hA2, ← hP, List.take_left, hPd]
      rw [hB2] at hB ⊢
      have hov := lay_twiceVC P1 spare (eVC x) Q
      rw [hP, hx3] at hov
      have hsl2 : spare.length = c' * 3 - i * 3 := by rw [List.length_append, hP] at hB; omega
      obtain ⟨C1, hC1⟩ : ∃ C, overlay (P1 ++ spare) (i * 3) (eVC x) = C := ⟨_, rfl⟩
      have hC1l : C1.length = c' * 3 := by
        rw [← hC1]; unfold overlay
        rw [List.length_append, List.length_append, List.length_take, List.length_drop, hB, hx3]; omega
      rw [hC1] at hov
      rw [show i * 3 + 3 = (i + 1) * 3 by omega] at hov
      generalize P1 ++ spare = B at *
      obtain ⟨C2, hC2⟩ : ∃ C, overlay C1 ((i + 1) * 3) Q = C := ⟨_, rfl⟩
      rw [hC2] at hov
      have hC2' := hC2
      simp [overlay, eVC] at hC1 hC2
      simp -implicitDefEqProofs [nb, nb', l1, l1', hB, ht1, ht2, hC1]
      refine ⟨by omega, ?_⟩
      refine regionK.modes [b', b] [.q, .q, .q, .q, .r, .q, .q, .r, .l] follows_mixed (by kernel_rfl) ?_
      simp -implicitDefEqProofs [nb, nb', l1, l1', l2, l2', l2'', l3, hlt, hlt', hB, hcl, w3, maskH, hC1l, hq1, hq2, hQd, hC2]
      have hov2 : C2 = W ++ spare.drop ((eVC x).length + Q.length) := by rw [hov, hins, hx3]
      have hC2l : C2.length = c' * 3 := by
        rw [← hC2']; unfold overlay
        rw [List.length_append, List.length_append, List.length_take, List.length_drop, hC1l, hQl]; omega
      have hWl : W.length = (l.length + 1) * 3 := by
        rw [hins, List.length_append, List.length_append, hP, hx3, hQl]; omega
      refine ⟨⟨by omega, by omega, fun y hy => hQc y hy⟩, one b' C2, SubH_one.2 (by simp [Weak.refl]), b', c', ⟨rfl, rfl⟩, _, by rw [hov2], ?_⟩
      have := congrArg List.length hov2
      rw [List.length_append, hC2l, hWl] at this
      omega
end Go.Proofs.YtjbbfiagijjdoaaGreat

/- Contracts: a list with something put in its place (api.ViewCells). Printed by sort/gen.py. No condition. -/
set_option linter.unusedSimpArgs false
set_option linter.unusedVariables false
set_option maxRecDepth 10000
namespace Go.Proofs.YtjbbfiagijjdoaaGreat
open Go Go.Rw Go.Proofs
-- a goal is never to be run by the elaborator
attribute [local irreducible] awp aops aop aopsE aeff

theorem putKVC_new {l : List PVC} {x : PVC} (hs : sortK keyVC l) (hh : hasK keyVC l (keyVC x) = false) : putK keyVC l x = insVC l (posK keyVC l (keyVC x)) x := by
  obtain ⟨h1, h2⟩ := take_posK hs (keyVC x)
  unfold putK insVC
  rw [h1, h2]
  congr 2
  refine List.filter_congr fun y hy => ?_
  have : ¬ keyVC y = keyVC x := fun h => by
    have h3 : hasK keyVC l (keyVC x) = true := by rw [hasK, List.any_eq_true]; exact ⟨y, hy, by simpa using h⟩
    rw [hh] at h3; simp at h3
  by_cases h : keyVC x < keyVC y
  · have : ¬ keyVC y < keyVC x := by omega
    simp [h, this]
  · have : keyVC y < keyVC x := by omega
    simp [h, this]
theorem putKVC_old {l : List PVC} {x : PVC} (hs : sortK keyVC l) (hh : hasK keyVC l (keyVC x) = true) : putK keyVC l x = l.set (posK keyVC l (keyVC x)) x ∧ posK keyVC l (keyVC x) < l.length := by
  obtain ⟨h1, h2⟩ := take_posK hs (keyVC x)
  rcases hasK_at hs (keyVC x) with ⟨y, hy, hk, _⟩ | ⟨_, h3⟩
  · have hlt : posK keyVC l (keyVC x) < l.length := by
      rcases Nat.lt_or_ge (posK keyVC l (keyVC x)) l.length with h | h
      · exact h
      · rw [List.getElem?_eq_none h] at hy; simp at hy
    refine ⟨?_, hlt⟩
    rw [List.set_eq_take_append_cons_drop, if_pos hlt, h1]
    unfold putK
    congr 2
    have hd : l.drop (posK keyVC l (keyVC x)) = y :: l.drop (posK keyVC l (keyVC x) + 1) := by
      rw [List.drop_eq_getElem_cons hlt]; rw [List.getElem?_eq_getElem hlt] at hy; rw [Option.some.inj hy]
    have hsd : (l.drop (posK keyVC l (keyVC x))).Pairwise fun a b => keyVC a < keyVC b := List.Pairwise.sublist (List.drop_sublist _ _) hs
    rw [hd, List.pairwise_cons] at hsd
    have e1 : l.filter (fun z => decide (keyVC x < keyVC z)) = (l.filter (fun z => decide (¬ keyVC z < keyVC x))).filter (fun z => decide (keyVC x < keyVC z)) := by
      rw [List.filter_filter]
      refine List.filter_congr fun z _ => ?_
      by_cases h : keyVC x < keyVC z
      · have : ¬ keyVC z < keyVC x := by omega
        simp [h, this]
      · simp [h]
    rw [e1, ← h2, hd, List.filter_cons_of_neg (by simp [hk])]
    refine List.filter_eq_self.2 fun z hz => ?_
    have := hsd.1 z hz
    simp; omega
  · rw [hh] at h3; simp at h3
theorem putVC_spec (l : List PVC) (x : PVC) (hs : sortK keyVC l) (hl : l.length ≤ 1000000) (hr : ∀ y ∈ l, rightV y.view = true) (hx : rightV x.view = true) :
    ASpec Tryz.prog 102 [.agg [.fn 93 []], .sl .no (rowsVC l), .agg (eVC x)] (fun r => ∃ tag, r = .sl tag (rowsVC (putK keyVC l x))) := by
  refine ASpec.of_awpS Tryz.func102 (by kernel_rfl) rfl (by rw [Tryz.results102]) Tryz.ntmps102 ?_
  simp -implicitDefEqProofs [eVC]
  refine allocK.intro (fun b1 hb1 => ?_)
  simp -implicitDefEqProofs
  refine allocK.intro (fun b2 hb2 => ?_)
  have n12 : ¬ b1 = b2 := by rintro rfl; simp at hb2
  have n21 : ¬ b2 = b1 := fun h => n12 h.symm
  simp -implicitDefEqProofs [n12, n21]
  refine regionK.intro 12 follows_mixed (by kernel_rfl) ?_
  simp -implicitDefEqProofs [n12, n21]
  refine CallQ.with (ofVC_spec x) (by simp [eVC]) ?_
  simp -implicitDefEqProofs [n12, n21]
  refine CallQ.with (placeVC_spec l x.view hs (by omega) hr hx) (by simp [eV]) ?_
  have hpl := posK_le (key := keyVC) l (nameV x.view)
  simp -implicitDefEqProofs [n12, n21]
  have ek : nameV x.view = keyVC x := rfl
  rw [ek] at *
  have hcl := cloneVC_own l (by omega)
  refine CallK.own hcl (by simp) ?_
  rintro r (⟨tag, htag, rfl, hl0⟩ | ⟨hne, rfl⟩)
  · left
    refine ⟨tag, htag, rfl, ?_⟩
    subst hl0
    simp -implicitDefEqProofs [hasK, posK, n12, n21]
    refine CallK.fresh (insertVC_mn x) (by simp [eVC]) ?_
    rintro _ h' H ⟨b, c, sp, rfl, rfl, hsp⟩ - hH -
    have k1 := hH b _ (one_self _ _)
    clear hH
    simp -implicitDefEqProofs
    refine shiftK.freeze (b := b) (len := 1) (cap := c) 6 91 (rowsVC [x]) (by simp) (cells := eVC x ++ sp) k1 (by simpa [rowsVC] using chunksVC [x] sp) (by simp) ?_ ?_
    · rw [List.length_append, show (eVC x).length = 3 from rfl]; exact hsp
    have hp : putK keyVC [] x = [x] := rfl
    simp -implicitDefEqProofs [hp]
  · right
    refine ⟨_, _, _, _, rfl, hne, .inl rfl, fun b cap spare hb hcap hsp => ?_⟩
    have n1 : ¬ b = b1 := by rintro rfl; simp [n12] at hb
    have n1' : ¬ b1 = b := fun h => n1 h.symm
    have n2 : ¬ b = b2 := by rintro rfl; simp at hb
    have n2' : ¬ b2 = b := fun h => n2 h.symm
    have ed := dead2VC l
    have hl0 : 0 < l.length := by
      cases l with
      | nil => exact absurd rfl hne
      | cons => simp
    have hsp2 : l.length * 3 + (spare.map AV.v).length = cap * 3 := by simp at hsp ⊢; omega
    have hcl2 : ((rowsVC l).flatten ++ spare.map AV.v).length = cap * 3 := by rw [List.length_append, flenVC]; exact hsp2
    cases hh : hasK keyVC l (keyVC x)
    · simp -implicitDefEqProofs [n12, n21, n1, n1', n2, n2', ed, hh]
      refine CallK.mh (insertVC_sm l (posK keyVC l (keyVC x)) b cap (spare.map AV.v) x hl0 hpl (by omega) hsp2) (by simp [eVC]) (SubH_one.2 (by simp [Weak.refl])) ?_
      rintro _ h' H ⟨b', c', sp', rfl, rfl, hlen⟩ - hH -
      have k1 := hH b' _ (one_self _ _)
      clear hH
      have hil : (insVC l (posK keyVC l (keyVC x)) x).length = l.length + 1 := by
        unfold insVC
        rw [List.length_append, List.length_take, List.length_cons, List.length_drop]; omega
      rw [putKVC_new hs hh]
      generalize insVC l (posK keyVC l (keyVC x)) x = L at *
      simp -implicitDefEqProofs
      refine shiftK.freeze (b := b') (len := l.length + 1) (cap := c') 6 91 (rowsVC L) (by simp) k1 (chunksVC L sp') (by simp [hil]) ?_ ?_
      · rw [List.length_append, flenVC, hil]; exact hlen
      simp -implicitDefEqProofs
    · obtain ⟨hpe, hlt⟩ := putKVC_old hs hh
      rw [hpe]
      have hset : overlay ((rowsVC l).flatten ++ spare.map AV.v) (posK keyVC l (keyVC x) * 3) (eVC x) = (rowsVC (l.set (posK keyVC l (keyVC x)) x)).flatten ++ spare.map AV.v := by
        rw [flat_set (rowsVC_one l) rfl (by simpa using hlt)]
        simp [rowsVC, List.map_set]
      have hfit : posK keyVC l (keyVC x) * 3 + 3 ≤ ((rowsVC l).flatten ++ spare.map AV.v).length := flat_fits (rowsVC_one l) (by simpa using hlt)
      generalize posK keyVC l (keyVC x) = p at *
      have hlt' : (p : Int) < (l.length : Int) := by omega
      obtain ⟨L, hL⟩ : ∃ L, l.set p x = L := ⟨_, rfl⟩
      have hLl : L.length = l.length := by rw [← hL, List.length_set]
      rw [hL] at hset ⊢
      have hcol : ((rowsVC L).flatten ++ spare.map AV.v).length = cap * 3 := by rw [List.length_append, flenVC, hLl]; exact hsp2
      have hck := chunksVC L (spare.map AV.v)
      generalize (rowsVC L).flatten ++ spare.map AV.v = C2 at *
      simp -implicitDefEqProofs [n12, n21, n1, n1', n2, n2', ed, hh]
      generalize (rowsVC l).flatten ++ spare.map AV.v = C1 at *
      simp [overlay, eVC] at hset
      simp -implicitDefEqProofs [n12, n21, n1, n1', n2, n2', hlt, hlt', hfit, hset]
      refine shiftK.freeze (b := b) (len := l.length) (cap := cap) 6 91 (rowsVC L) (by simp) (by simp) hck (by simp [hLl]) hcol ?_
      simp -implicitDefEqProofs
end Go.Proofs.YtjbbfiagijjdoaaGreat

/- Contracts: where something stands by its view (api.ViewIntent). Printed by sort/gen.py. No condition. -/
set_option linter.unusedSimpArgs false
set_option linter.unusedVariables false
set_option maxRecDepth 10000
namespace Go.Proofs.YtjbbfiagijjdoaaGreat
open Go Go.Rw Go.Proofs
-- a goal is never to be run by the elaborator
attribute [local irreducible] awp aops aop aopsE aeff

@[simp] theorem vTfVI : vT Tryz.prog 103 = some (1, false) := by kernel_rfl
def keyVI (x : PVI) : Int := nameV x.view
def rowsVI (l : List PVI) : List (List AV) := l.map eVI
@[simp] theorem rowsVI_length (l : List PVI) : (rowsVI l).length = l.length := by simp [rowsVI]
@[simp] theorem rowsVI_get (l : List PVI) (i : Nat) : (rowsVI l)[i]? = (l[i]?).map eVI := by simp [rowsVI]
@[simp] theorem rowsVI_nil : rowsVI [] = [] := rfl
@[simp] theorem rowsVI_append (l m : List PVI) : rowsVI l ++ rowsVI m = rowsVI (l ++ m) := by simp [rowsVI]
theorem rowsVI_one (l : List PVI) : ∀ r ∈ rowsVI l, r.length = 4 := by
  intro r hr
  obtain ⟨c, _, rfl⟩ := List.mem_map.1 hr
  rfl
@[simp] theorem rowsVI_rows (l : List PVI) : (∀ r : List AV, r ∈ rowsVI l → r.length = 4) ↔ True := iff_of_true (rowsVI_one l) trivial
theorem ofVI_spec (x : PVI) : ASpec Tryz.prog 80 [.agg (eVI x)] (· = .agg (eV x.view)) := by
  refine ASpec.of_awp Tryz.func80 (by kernel_rfl) rfl (by rw [Tryz.results80]) Tryz.ntmps80 ?_
  simp -implicitDefEqProofs [eVI]
  refine allocK.intro (fun b1 hb1 => ?_)
  simp -implicitDefEqProofs
  refine allocK.intro (fun b2 hb2 => ?_)
  have n12 : ¬ b1 = b2 := by rintro rfl; simp at hb2
  have n21 : ¬ b2 = b1 := fun h => n12 h.symm
  simp -implicitDefEqProofs [n12, n21, eV]
theorem shelvedVI_spec : ASpec Tryz.prog 79 [.fn 80 []] (· = .agg [.fn 80 []]) := by
  refine ASpec.of_awp Tryz.func79 (by kernel_rfl) rfl (by rw [Tryz.results79]) Tryz.ntmps79 ?_
  simp -implicitDefEqProofs
  refine allocK.intro (fun b1 hb1 => ?_)
  simp -implicitDefEqProofs
theorem placeKeyVI_spec (x : PVI) (b : Nat) (n : Int) (h : rightV x.view = true) : MSpec Tryz.prog 142 [.agg (eVI x), eI n, .ptr b 0] (one b [.fn 80 []]) (fun r h' => r = eI (cmpI (keyVI x) n) ∧ h' = one b [.fn 80 []]) := by
  refine MSpec.of_awp Tryz.func142 (by kernel_rfl) rfl (by rw [Tryz.results142]) Tryz.ntmps142 ?_
  simp -implicitDefEqProofs [eVI]
  refine allocK.intro (fun b1 hb1 => ?_)
  have n1 : ¬ b1 = b := by rintro rfl; simp at hb1
  have n2 : ¬ b = b1 := fun h => n1 h.symm
  simp -implicitDefEqProofs [n1, n2]
  refine CallK.with (ofVI_spec x) (by simp [eVI]) ?_
  simp -implicitDefEqProofs [eV]
  refine CallK.with (change_name x.view h) (by simp [eV]) ?_
  simp -implicitDefEqProofs
  refine CallK.eq (compare_int (nameV x.view) n) ?_
  simp -implicitDefEqProofs [n1, n2, keyVI]
def BsVII (l : List PVI) (n : Int) (g : FuncId) (b : Nat) (c : List AV) (t : Nat → AV) (h : Nat → Option (List AV)) : Prop := ∃ i j : Nat, t 0 = .sl .no (rowsVI l) ∧ t 1 = eI n ∧ t 2 = .fn g [.ptr b 0] ∧ t 8 = eI l.length ∧ t 9 = eI i ∧ t 10 = eI j ∧ i ≤ posK keyVI l n ∧ posK keyVI l n ≤ j ∧ j ≤ l.length ∧ h b = some c
def BsVIM (l : List PVI) (n : Int) (g : FuncId) (b : Nat) (c : List AV) (t : Nat → AV) (h : Nat → Option (List AV)) : Prop := t 0 = .sl .no (rowsVI l) ∧ t 1 = eI n ∧ t 2 = .fn g [.ptr b 0] ∧ t 8 = eI l.length ∧ t 9 = eI (posK keyVI l n) ∧ h b = some c
theorem bsearchVI_spec (g : FuncId) (b : Nat) (c : List AV) (l : List PVI) (n : Int) (hs : sortK keyVI l) (hl : l.length ≤ 1000000000) (hf : ∀ x ∈ l, MSpec Tryz.prog g [.agg (eVI x), eI n, .ptr b 0] (one b c) (fun r h' => r = eI (cmpI (keyVI x) n) ∧ h' = one b c)) :
    MSpec Tryz.prog 140 [.sl .no (rowsVI l), eI n, .fn g [.ptr b 0]] (one b c) (fun r h' => r = .tup [eI (posK keyVI l n), .v (.bool (hasK keyVI l n))] ∧ h' = one b c) := by
  have hp := posK_le (key := keyVI) l n
  refine MSpec.of_awp Tryz.func140 (by kernel_rfl) rfl (by rw [Tryz.results140]) Tryz.ntmps140 ?_
  simp -implicitDefEqProofs
  intro _
  refine loopK.post (BsVII l n g b c) (fun t => natOf (t 10) - natOf (t 9)) (BsVIM l n g b c) ?_ ?_ ?_
  · exact ⟨0, l.length, by simp, by simp, by simp, by simp, by simp, by simp, by omega, hp, by omega, by simp⟩
  · rintro t hh ⟨i, j, g0, g1, g2, g8, g9, g10, hi, hj, hjl, hb⟩
    have hm9 : natOf (t 9) = i := by rw [g9]; simp
    have hm10 : natOf (t 10) = j := by rw [g10]; simp
    by_cases hlt : i < j
    · have hlt' : (i : Int) < (j : Int) := by omega
      have w1 : IntKind.i64.wrap ((i : Int) + (j : Int)) = (i : Int) + (j : Int) := w64 (by omega) (by omega)
      have w2 : IntKind.u64.wrap ((i : Int) + (j : Int)) = (i : Int) + (j : Int) := by
        simp [IntKind.wrap, IntKind.bits, IntKind.signed]; omega
      obtain ⟨m, hm⟩ : ∃ m : Nat, m = (i + j) / 2 := ⟨_, rfl⟩
      have w3 : ((i : Int) + (j : Int)) / 2 = (m : Int) := by omega
      have w4 : IntKind.i64.wrap (m : Int) = (m : Int) := w64 (by omega) (by omega)
      have w4' : IntKind.u64.wrap (m : Int) = (m : Int) := by
        simp [IntKind.wrap, IntKind.bits, IntKind.signed]; omega
      have w5 : IntKind.i64.wrap ((m : Int) + 1) = ((m + 1 : Nat) : Int) := by rw [w64 (by omega) (by omega)]; omega
      have hml : m < l.length := by omega
      obtain ⟨x, hx⟩ : ∃ x, l[m]? = some x := ⟨l[m], by simp [hml]⟩
      have hpk := posK_lt hs (n := n) hx
      have s1 : Int.fdiv ((i : Int) + (j : Int)) (2 ^ min 1 IntKind.u64.bits) = (m : Int) := by
        have := shr_u64 (i + j) 1 (by omega)
        rw [hm]
        simpa using this
      have hml' : (m : Int) < (l.length : Int) := by omega
      simp -implicitDefEqProofs [g0, g1, g2, g9, g10, hlt', hlt, w1, w2, w3, w4, w4', hx, hml', eVI, aNum_shr, s1]
      refine CallK.one (hf x (List.mem_of_getElem? hx)) (by simp [eVI]) (by simp [hb, Weak.refl]) ?_
      have hcm : (cmpI (keyVI x) n < 0) ↔ keyVI x < n := by
        unfold cmpI
        by_cases h1 : keyVI x < n
        · simp [h1]
        · by_cases h2 : n < keyVI x <;> simp [h1, h2]
      by_cases hk : keyVI x < n
      · have hk1 := hcm.2 hk
        have hk2 := hpk.1 hk
        simp -implicitDefEqProofs [hk1, w5]
        exact ⟨⟨m + 1, j, by simp [g0], by simp [g1], by simp [g2], by simp [g8], by simp, by simp [g10], by omega, hj, hjl, by simp⟩, by first | omega | (simp [g9, g10]; omega)⟩
      · have hk1 : ¬ cmpI (keyVI x) n < 0 := fun h => hk (hcm.1 h)
        have hk2 : posK keyVI l n ≤ m := by
          rcases Nat.lt_or_ge m (posK keyVI l n) with h | h
          · exact absurd (hpk.2 h) hk
          · exact h
        simp -implicitDefEqProofs [hk1]
        exact ⟨⟨i, m, by simp [g0], by simp [g1], by simp [g2], by simp [g8], by simp [g9], by simp, hi, hk2, by omega, by simp⟩, by first | omega | (simp [g9, g10]; omega) | (simp [g9, g10, upd]; omega)⟩
    · have hlt' : ¬ (i : Int) < (j : Int) := by omega
      obtain rfl : i = posK keyVI l n := by omega
      simp -implicitDefEqProofs [g9, g10, hlt', hlt]
      exact ⟨by simp [g0], by simp [g1], by simp [g2], by simp [g8], by simp [g9], hb⟩
  rintro t hh ⟨g0, g1, g2, g8, g9, hb⟩
  have hcz : ∀ x : PVI, (cmpI (keyVI x) n = 0) ↔ keyVI x = n := fun x => by
    unfold cmpI
    by_cases h1 : keyVI x < n
    · have h3 : ¬ keyVI x = n := by omega
      simp [h1, h3]
    · by_cases h2 : n < keyVI x
      · have h3 : ¬ keyVI x = n := by omega
        simp [h1, h2, h3]
      · have h3 : keyVI x = n := by omega
        simp [h3]
  have hat := hasK_at hs n
  generalize posK keyVI l n = p at *
  by_cases hlt : p < l.length
  · have hlt' : (p : Int) < (l.length : Int) := by omega
    obtain ⟨x, hx⟩ : ∃ x, l[p]? = some x := ⟨l[p], by simp [hlt]⟩
    simp -implicitDefEqProofs [g0, g1, g2, g8, g9, hlt', hx, eVI]
    refine CallK.one (hf x (List.mem_of_getElem? hx)) (by simp [eVI]) (by simp [hb, Weak.refl]) ?_
    by_cases hk : keyVI x = n
    · have h1 := (hcz x).2 hk
      have h2 : hasK keyVI l n = true := by
        rcases hat with ⟨y, h3, h4, h5⟩ | ⟨h3, h4⟩
        · exact h5
        · exact absurd hk (h3 x hx)
      simp -implicitDefEqProofs [h1, h2, g9, hb, Weak.refl]
    · have h1 : ¬ cmpI (keyVI x) n = 0 := fun h => hk ((hcz x).1 h)
      have h2 : hasK keyVI l n = false := by
        rcases hat with ⟨y, h3, h4, h5⟩ | ⟨h3, h4⟩
        · rw [hx] at h3; cases h3; exact absurd h4 hk
        · exact h4
      simp -implicitDefEqProofs [h1, h2, g9, hb, Weak.refl]
  · have hlt' : ¬ (p : Int) < (l.length : Int) := by omega
    have h2 : hasK keyVI l n = false := by
      rcases hat with ⟨y, h3, h4, h5⟩ | ⟨h3, h4⟩
      · rw [List.getElem?_eq_none (by omega)] at h3; simp at h3
      · exact h4
    simp -implicitDefEqProofs [g0, g1, g2, g8, g9, hlt', h2, hb, Weak.refl]
theorem placeVI_spec (l : List PVI) (v : PView) (hs : sortK keyVI l) (hl : l.length ≤ 1000000000) (hr : ∀ x ∈ l, rightV x.view = true) (hv : rightV v = true) :
    ASpec Tryz.prog 81 [.agg [.fn 80 []], .sl .no (rowsVI l), .agg (eV v)] (· = .tup [eI (posK keyVI l (nameV v)), .v (.bool (hasK keyVI l (nameV v)))]) := by
  refine ASpec.of_awp Tryz.func81 (by kernel_rfl) rfl (by rw [Tryz.results81]) Tryz.ntmps81 ?_
  simp -implicitDefEqProofs [eV]
  refine allocK.intro (fun b1 hb1 => ?_)
  simp -implicitDefEqProofs
  refine allocK.intro (fun b2 hb2 => ?_)
  have n12 : ¬ b1 = b2 := by rintro rfl; simp at hb2
  have n21 : ¬ b2 = b1 := fun h => n12 h.symm
  simp -implicitDefEqProofs [n12, n21]
  refine CallK.with (change_name v hv) (by simp [eV]) ?_
  simp -implicitDefEqProofs [n12, n21]
  refine CallK.one (bsearchVI_spec 142 b1 [.fn 80 []] l (nameV v) hs hl (fun x hx => placeKeyVI_spec x b1 (nameV v) (hr x hx))) rfl (by simp [n12, Weak.refl]) ?_
  simp -implicitDefEqProofs
end Go.Proofs.YtjbbfiagijjdoaaGreat

/- Contracts: something is put in its place (api.ViewIntent). Printed by sort/gen.py. No condition. -/
set_option linter.unusedSimpArgs false
set_option linter.unusedVariables false
set_option maxRecDepth 10000
namespace Go.Proofs.YtjbbfiagijjdoaaGreat
open Go Go.Rw Go.Proofs
-- a goal is never to be run by the elaborator
attribute [local irreducible] awp aops aop aopsE aeff

theorem deadVI (l : List PVI) : (rowsVI l).flatten.map dead1 = (rowsVI l).flatten := by
  induction l with
  | nil => rfl
  | cons x l ih => simp [rowsVI, eVI, dead1] at *; try exact ih
theorem dead2VI (l : List PVI) : (rowsVI l).map (List.map dead1) = rowsVI l := by
  induction l with
  | nil => rfl
  | cons x l ih => simp [rowsVI, eVI, dead1] at *; try exact ih
theorem flenVI (l : List PVI) : (rowsVI l).flatten.length = l.length * 4 := by
  rw [flat_len (rowsVI_one l)]; simp
theorem chunksVI (l : List PVI) (sp : List AV) : chunks ((rowsVI l).flatten ++ sp) (rowsVI l) 4 := by
  refine ⟨rowsVI_one l, ?_, ?_, ?_⟩
  · rw [show (rowsVI l).length * 4 = (rowsVI l).flatten.length by rw [flenVI]; simp, List.take_left, deadVI]
  · rw [List.length_append, flenVI]; simp
  · intro r hr x hx
    obtain ⟨c, _, rfl⟩ := List.mem_map.1 hr
    simp [eVI] at hx
    rcases hx with rfl | rfl | rfl | rfl <;> rfl
def ClVIR (l : List PVI) (r : AV) : Prop := (∃ tag, (tag = .nil ∨ tag = .full) ∧ r = .sl tag [] ∧ l = []) ∨ (rowsVI l ≠ [] ∧ r = .sl (.live 93 4 true) (rowsVI l))
theorem cloneVI_own (l : List PVI) (hl : l.length * 32 ≤ 140737488355328) : ASpec Tryz.prog 128 [.sl .no (rowsVI l)] (ClVIR l) := by
  refine ASpec.of_awp Tryz.func128 (by kernel_rfl) rfl (by rw [Tryz.results128]) Tryz.ntmps128 ?_
  simp -implicitDefEqProofs
  refine nilK.intro (fun h => ?_) ?_
  · have h' : l = [] := by simpa [rowsVI] using h
    simp -implicitDefEqProofs [h]; exact .inl ⟨_, .inl rfl, rfl, h'⟩
  · simp -implicitDefEqProofs [hl]
    by_cases h : l = []
    · subst h; exact .inl ⟨_, .inr rfl, rfl, rfl⟩
    · have h' : rowsVI l ≠ [] := by simpa [rowsVI] using h
      exact .inr ⟨h', by rw [appTag_full h']⟩
theorem insertVI_mn (x : PVI) : MSpec Tryz.prog 159 [.mn, eI 0, .sl .no [eVI x]] (fun _ => none) (fun r h' => ∃ b c sp, r = .sm b 0 1 c ∧ h' = one b (eVI x ++ sp) ∧ 4 + sp.length = c * 4) := by
  refine MSpec.of_awp Tryz.func159 (by kernel_rfl) rfl (by rw [Tryz.results159]) Tryz.ntmps159 ?_
  simp -implicitDefEqProofs [eVI]
  refine growMnK.intro (fun h => by simp at h) fun _ b c sp hb hc hsp => ?_
  simp -implicitDefEqProofs
  simp at hsp
  exact ⟨_, SubH_one.2 (by simp; exact Weak.refl _), b, c, ⟨rfl, rfl⟩, sp, rfl, by omega⟩
theorem lay_atVI (P T X : List AV) : overlay (P ++ T) P.length X = P ++ X ++ T.drop X.length := by
  unfold overlay
  rw [List.take_left, List.drop_append, List.drop_of_length_le (by omega), List.nil_append, Nat.add_sub_cancel_left]
theorem lay_twiceVI (P T X Y : List AV) : overlay (overlay (P ++ T) P.length X) (P.length + X.length) Y = P ++ X ++ Y ++ T.drop (X.length + Y.length) := by
  rw [lay_atVI, ← List.length_append, lay_atVI, List.drop_drop]
theorem lay_backVI (P T R Q : List AV) (h : R.length ≤ T.length) : overlay (overlay (P ++ T) (P.length + R.length) Q) P.length R = P ++ R ++ Q ++ T.drop (R.length + Q.length) := by
  have e : overlay (P ++ T) (P.length + R.length) Q = P ++ (T.take R.length ++ (Q ++ T.drop (R.length + Q.length))) := by
    unfold overlay
    rw [List.take_append, List.take_of_length_le (by omega), Nat.add_sub_cancel_left, List.drop_append, List.drop_of_length_le (by omega), List.nil_append, show P.length + R.length + Q.length - P.length = R.length + Q.length by omega]
    simp only [List.append_assoc]
  rw [e, lay_atVI, List.drop_append, List.drop_of_length_le (by rw [List.length_take]; omega), List.nil_append, List.length_take, Nat.min_eq_left h, Nat.sub_self, List.drop_zero]
  simp only [List.append_assoc]
/-- behind an insertion -/
def insVI (l : List PVI) (i : Nat) (x : PVI) : List PVI := l.take i ++ x :: l.drop i
theorem insertVI_sm (l : List PVI) (i b cap : Nat) (sp : List AV) (x : PVI) (h0 : 0 < l.length) (hi : i ≤ l.length) (hl : l.length ≤ 1000000000) (hsp : l.length * 4 + sp.length = cap * 4) :
    MSpec Tryz.prog 159 [.sm b 0 l.length cap, eI i, .sl .no [eVI x]] (one b ((rowsVI l).flatten ++ sp)) (fun r h' => ∃ b' c' sp', r = .sm b' 0 (l.length + 1) c' ∧ h' = one b' ((rowsVI (insVI l i x)).flatten ++ sp') ∧ (l.length + 1) * 4 + sp'.length = c' * 4) := by
  refine MSpec.of_awp Tryz.func159 (by kernel_rfl) rfl (by rw [Tryz.results159]) Tryz.ntmps159 ?_
  have hlen := flenVI l
  have hcl : ((rowsVI l).flatten ++ sp).length = cap * 4 := by rw [List.length_append, hlen]; exact hsp
  have w1 : IntKind.i64.wrap ((l.length : Int) + 1) = ((l.length + 1 : Nat) : Int) := by rw [w64 (by omega) (by omega)]; omega
  generalize hA : (rowsVI l).flatten ++ sp = A at *
  have hne : ¬ l = [] := by rintro rfl; simp at h0
  by_cases hil : i = l.length
  · subst hil
    simp -implicitDefEqProofs [eVI, hne, hcl]
    intro _
    refine ⟨by omega, growSmK.intro fun b' c' spare hb' hc' hsp' => ?_⟩
    have htk : (A.take (l.length * 4)).map dead1 = (rowsVI l).flatten := by rw [← hA, ← hlen, List.take_left, deadVI]
    have hfin : (A.take (l.length * 4)).map dead1 ++ [eVI x].flatten.map dead1 ++ spare = (rowsVI (insVI l l.length x)).flatten ++ spare := by
      rw [htk]; simp [insVI, rowsVI, eVI, dead1]
    simp only [eVI] at hfin
    rw [hfin]
    simp -implicitDefEqProofs
    simp at hsp'
    exact ⟨_, SubH_one.2 (by simp; exact Weak.refl _), b', c', ⟨rfl, rfl⟩, spare, rfl, by omega⟩
  · have hlt : i < l.length := by omega
    have hil' : ¬ (i : Int) = (l.length : Int) := by omega
    have hlt' : (i : Int) < (l.length : Int) := by omega
    have hle : i ≤ l.length := hi
    have hti : (l.take i).length = i := by rw [List.length_take]; omega
    have hP : (rowsVI (l.take i)).flatten.length = i * 4 := by rw [flenVI, hti]
    have hQl : (rowsVI (l.drop i)).flatten.length = (l.length - i) * 4 := by rw [flenVI, List.length_drop]
    have hsplit : (rowsVI l).flatten = (rowsVI (l.take i)).flatten ++ (rowsVI (l.drop i)).flatten := by
      rw [← List.flatten_append, rowsVI_append, List.take_append_drop]
    have hins : (rowsVI (insVI l i x)).flatten = (rowsVI (l.take i)).flatten ++ eVI x ++ (rowsVI (l.drop i)).flatten := by
      simp [insVI, rowsVI]
    have hA2 : A = (rowsVI (l.take i)).flatten ++ ((rowsVI (l.drop i)).flatten ++ sp) := by rw [← hA, hsplit, List.append_assoc]
    have hPd := deadVI (l.take i)
    have hQd := deadVI (l.drop i)
    have hQc : ∀ x ∈ (rowsVI (l.drop i)).flatten, cellAV x = true := by
      intro y hy
      obtain ⟨r, hr, hy⟩ := List.mem_flatten.1 hy
      obtain ⟨c, _, rfl⟩ := List.mem_map.1 hr
      simp [eVI] at hy
      rcases hy with rfl | rfl | rfl | rfl <;> rfl
    generalize (rowsVI (insVI l i x)).flatten = W at *
    generalize (rowsVI (l.take i)).flatten = P1 at *
    generalize (rowsVI (l.drop i)).flatten = Q at *
    have hx3 : (eVI x).length = 4 := rfl
    have hq1 : (A.drop (i * 4)).take ((l.length - i) * 4) = Q := by rw [hA2, ← hP, List.drop_left, ← hQl, List.take_left]
    have hq2 : ((A.map dead1).drop (i * 4)).take ((l.length - i) * 4) = Q := by rw [← List.map_drop, ← List.map_take, hq1, hQd]
    have ht1 : ∀ r : List AV, [r].take (l.length + 1 - i) = [r] := fun r => List.take_of_length_le (by simp; omega)
    have ht2 : [4].take (l.length + 1 - i) = [4] := List.take_of_length_le (by simp; omega)
    have w3 : IntKind.i64.wrap ((i : Int) + 1) = ((i + 1 : Nat) : Int) := by rw [w64 (by omega) (by omega)]; omega
    have l1 : i < l.length + 1 := by omega
    have l1' : (i : Int) < (l.length : Int) + 1 := by omega
    have l2 : i + 1 < l.length + 1 := by omega
    have l2' : (i : Int) + 1 < (l.length : Int) + 1 := by omega
    have l2'' : (i : Int) + 1 ≤ (l.length : Int) := by omega
    have l3 : (0 : Int) ≤ (i : Int) + 1 := by omega
    by_cases hroom : l.length + 1 ≤ cap
    · have hr' : ¬ (cap : Int) < (l.length : Int) + 1 := by omega
      have hr2 : (l.length : Int) + 1 ≤ (cap : Int) := by omega
      have hr3 : (l.length : Int) + 1 ≤ 281474976710656 := by omega
      have hr4 : (0 : Int) < (l.length : Int) + 1 := by omega
      simp -implicitDefEqProofs [eVI, hne, hcl, hil, hil', hlt, hlt', hle, w1]
      intro _
      refine capSm (e := (93, 4, 32)) (b := b) (o := 0) (n := l.length) (c := cap) (by simp) (by simp) ?_
      simp -implicitDefEqProofs [eVI, hne, hcl, hil, hil', hlt, hlt', hle, w1, hr', hr2, hr3, hr4]
      simp -implicitDefEqProofs [l1, l1', l2, l2', l2'', l3, w3]
      refine CallK.mh (h := one b A) (MSpec.overlaps (tS := 33) (tR := 4) (e := 93) (sz := 4) (by_ := 32) (tag := .no) (rows := [eVI x]) (b := b) (off := (i + 1) * 4) (n := l.length - i) (c := cap - (i + 1)) (cells := A) Tryz.func197 (by kernel_rfl) (by kernel_rfl) (by kernel_rfl) (by kernel_rfl) (by simp) (by omega) (by simp) (by simp [eVI]) (one_self _ _)) (by simp [eVI]) (SubH_one.2 (by simp [Weak.refl])) ?_
      rintro _ h' H ⟨rfl, rfl⟩ - hH -
      have k1 := hH b _ (one_self _ _)
      clear hH
      have hroom2 : Q.length + sp.length = cap * 4 - i * 4 := by
        rw [hA2, List.length_append, List.length_append, hP] at hcl; omega
      have hov := lay_backVI P1 (Q ++ sp) (eVI x) Q (by rw [List.length_append, hroom2, hx3]; omega)
      rw [hP, hx3, ← hA2, show i * 4 + 4 = (i + 1) * 4 by omega] at hov
      obtain ⟨C1, hC1⟩ : ∃ C, overlay A ((i + 1) * 4) Q = C := ⟨_, rfl⟩
      have hC1l : C1.length = cap * 4 := by
        rw [← hC1]; unfold overlay
        rw [List.length_append, List.length_append, List.length_take, List.length_drop, hcl, hQl]; omega
      rw [hC1] at hov
      obtain ⟨C2, hC2⟩ : ∃ C, overlay C1 (i * 4) (eVI x) = C := ⟨_, rfl⟩
      rw [hC2] at hov
      have hC2' := hC2
      have hmin : min (l.length + 1 - i) (l.length - i) = l.length - i := by omega
      simp [overlay, eVI] at hC1 hC2
      simp -implicitDefEqProofs
      refine regionK.modes [b] [.q, .q, .q, .q, .r, .q, .q, .r, .l] follows_mixed (by kernel_rfl) ?_
      simp -implicitDefEqProofs [l1, l1', l2, l2', l2'', l3, hlt, hlt', hr4, hcl, w3, maskH, k1, hq1, hq2, hQd, hmin, hC1]
      refine ⟨⟨by omega, by omega, fun y hy => hQc y hy⟩, ?_⟩
      simp -implicitDefEqProofs [l1, l1', ht1, ht2, hC1l, hC2]
      have hov2 : C2 = W ++ (Q ++ sp).drop (4 + Q.length) := by rw [hov, hins]
      have hC2l : C2.length = cap * 4 := by
        rw [← hC2']; unfold overlay
        rw [List.length_append, List.length_append, List.length_take, List.length_drop, hC1l, hx3]; omega
      have hWl : W.length = (l.length + 1) * 4 := by
        rw [hins, List.length_append, List.length_append, hP, hx3, hQl]; omega
      refine ⟨by omega, one b C2, SubH_one.2 (by simp [Weak.refl]), b, cap, ⟨rfl, rfl⟩, _, by rw [hov2], ?_⟩
      have := congrArg List.length hov2
      rw [List.length_append, hC2l, hWl] at this
      omega
    · have hr' : (cap : Int) < (l.length : Int) + 1 := by omega
      simp -implicitDefEqProofs [eVI, hne, hcl, hil, hil', hlt, hlt', hle, w1]
      intro _
      refine capSm (e := (93, 4, 32)) (b := b) (o := 0) (n := l.length) (c := cap) (by simp) (by simp) ?_
      simp -implicitDefEqProofs [eVI, hne, hcl, hil, hil', hlt, hlt', hle, w1, hr']
      have w2 : IntKind.i64.wrap ((l.length : Int) + 1 - (i : Int)) = ((l.length + 1 - i : Nat) : Int) := by rw [w64 (by omega) (by omega)]; omega
      have hsl : (if 0 < i then some (AV.sm b 0 i cap) else if 0 = (i : Int) then some (AV.sm b 0 0 cap) else none) = some (.sm b 0 i cap) := by
        by_cases h : 0 < i
        · rw [if_pos h]
        · have h2 : i = 0 := by omega
          subst h2; simp
      have hik : i + (l.length + 1 - i) = l.length + 1 := by omega
      simp -implicitDefEqProofs [hsl, w2]
      refine zerosSm (e := 93) (sz := 4) (by_ := 32) (ku := .i64) (z := [eI 0, eI 0, eI 0, eI 0]) (l.length + 1 - i) b i cap A (by decide) (by simp) (by simp) (by simp) rfl (by omega) (by omega) (by simp) (by simp [w1, w2]) (by simp) hcl (by omega) (by omega) (by omega) fun b' c' spare hb' hc' hsp' => ?_
      have nb : ¬ b' = b := by rintro rfl; simp at hb'
      have nb' : ¬ b = b' := fun h => nb h.symm
      have hB : ((A.take (i * 4)).map dead1 ++ spare).length = c' * 4 := by
        rw [List.length_append, List.length_map, List.length_take]; omega
      rw [hik] at hc' ⊢
      have hB2 : (A.take (i * 4)).map dead1 ++ spare = P1 ++ spare := by rw [hA2, ← hP, List.take_left, hPd]
      rw [hB2] at hB ⊢
      have hov := lay_twiceVI P1 spare (eVI x) Q
      rw [hP, hx3] at hov
      have hsl2 : spare.length = c' * 4 - i * 4 := by rw [List.length_append, hP] at hB; omega
      obtain ⟨C1, hC1⟩ : ∃ C, overlay (P1 ++ spare) (i * 4) (eVI x) = C := ⟨_, rfl⟩
      have hC1l : C1.length = c' * 4 := by
        rw [← hC1]; unfold overlay
        rw [List.length_append, List.length_append, List.length_take, List.length_drop, hB, hx3]; omega
      rw [hC1] at hov
      rw [show i * 4 + 4 = (i + 1) * 4 by omega] at hov
      generalize P1 ++ spare = B at *
      obtain ⟨C2, hC2⟩ : ∃ C, overlay C1 ((i + 1) * 4) Q = C := ⟨_, rfl⟩
      rw [hC2] at hov
      have hC2' := hC2
      simp [overlay, eVI] at hC1 hC2
      simp -implicitDefEqProofs [nb, nb', l1, l1', hB, ht1, ht2, hC1]
      refine ⟨by omega, ?_⟩
      refine regionK.modes [b', b] [.q, .q, .q, .q, .r, .q, .q, .r, .l] follows_mixed (by kernel_rfl) ?_
      simp -implicitDefEqProofs [nb, nb', l1, l1', l2, l2', l2'', l3, hlt, hlt', hB, hcl, w3, maskH, hC1l, hq1, hq2, hQd, hC2]
      have hov2 : C2 = W ++ spare.drop ((eVI x).length + Q.length) := by rw [hov, hins, hx3]
      have hC2l : C2.length = c' * 4 := by
        rw [← hC2']; unfold overlay
        rw [List.length_append, List.length_append, List.length_take, List.length_drop, hC1l, hQl]; omega
      have hWl : W.length = (l.length + 1) * 4 := by
        rw [hins, List.length_append, List.length_append, hP, hx3, hQl]; omega
      refine ⟨⟨by omega, by omega, fun y hy => hQc y hy⟩, one b' C2, SubH_one.2 (by simp [Weak.refl]), b', c', ⟨rfl, rfl⟩, _, by rw [hov2], ?_⟩
      have := congrArg List.length hov2
      rw [List.length_append, hC2l, hWl] at this
      omega
end Go.Proofs.YtjbbfiagijjdoaaGreat

/- Contracts: a list with something put in its place (api.ViewIntent). Printed by sort/gen.py. No condition. -/
set_option linter.unusedSimpArgs false
set_option linter.unusedVariables false
set_option maxRecDepth 10000
namespace Go.Proofs.YtjbbfiagijjdoaaGreat
open Go Go.Rw Go.Proofs
-- a goal is never to be run by the elaborator
attribute [local irreducible] awp aops aop aopsE aeff

theorem putKVI_new {l : List PVI} {x : PVI} (hs : sortK keyVI l) (hh : hasK keyVI l (keyVI x) = false) : putK keyVI l x = insVI l (posK keyVI l (keyVI x)) x := by
  obtain ⟨h1, h2⟩ := take_posK hs (keyVI x)
  unfold putK insVI
  rw [h1, h2]
  congr 2
  refine List.filter_congr fun y hy => ?_
  have : ¬ keyVI y = keyVI x := fun h => by
    have h3 : hasK keyVI l (keyVI x) = true := by rw [hasK, List.any_eq_true]; exact ⟨y, hy, by simpa using h⟩
    rw [hh] at h3; simp at h3
  by_cases h : keyVI x < keyVI y
  · have : ¬ keyVI y < keyVI x := by omega
    simp [h, this]
  · have : keyVI y < keyVI x := by omega
    simp [h, this]
theorem putKVI_old {l : List PVI} {x : PVI} (hs : sortK keyVI l) (hh : hasK keyVI l (keyVI x) = true) : putK keyVI l x = l.set (posK keyVI l (keyVI x)) x ∧ posK keyVI l (keyVI x) < l.length := by
  obtain ⟨h1, h2⟩ := take_posK hs (keyVI x)
  rcases hasK_at hs (keyVI x) with ⟨y, hy, hk, _⟩ | ⟨_, h3⟩
  · have hlt : posK keyVI l (keyVI x) < l.length := by
      rcases Nat.lt_or_ge (posK keyVI l (keyVI x)) l.length with h | h
      · exact h
      · rw [List.getElem?_eq_none h] at hy; simp at hy
    refine ⟨?_, hlt⟩
    rw [List.set_eq_take_append_cons_drop, if_pos hlt, h1]
    unfold putK
    congr 2
    have hd : l.drop (posK keyVI l (keyVI x)) = y :: l.drop (posK keyVI l (keyVI x) + 1) := by
      rw [List.drop_eq_getElem_cons hlt]; rw [List.getElem?_eq_getElem hlt] at hy; rw [Option.some.inj hy]
    have hsd : (l.drop (posK keyVI l (keyVI x))).Pairwise fun a b => keyVI a < keyVI b := List.Pairwise.sublist (List.drop_sublist _ _) hs
    rw [hd, List.pairwise_cons] at hsd
    have e1 : l.filter (fun z => decide (keyVI x < keyVI z)) = (l.filter (fun z => decide (¬ keyVI z < keyVI x))).filter (fun z => decide (keyVI x < keyVI z)) := by
      rw [List.filter_filter]
      refine List.filter_congr fun z _ => ?_
      by_cases h : keyVI x < keyVI z
      · have : ¬ keyVI z < keyVI x := by omega
        simp [h, this]
      · simp [h]
    rw [e1, ← h2, hd, List.filter_cons_of_neg (by simp [hk])]
    refine List.filter_eq_self.2 fun z hz => ?_
    have := hsd.1 z hz
    simp; omega
  · rw [hh] at h3; simp at h3
theorem putVI_spec (l : List PVI) (x : PVI) (hs : sortK keyVI l) (hl : l.length ≤ 1000000) (hr : ∀ y ∈ l, rightV y.view = true) (hx : rightV x.view = true) :
    ASpec Tryz.prog 103 [.agg [.fn 80 []], .sl .no (rowsVI l), .agg (eVI x)] (fun r => ∃ tag, r = .sl tag (rowsVI (putK keyVI l x))) := by
  refine ASpec.of_awpS Tryz.func103 (by kernel_rfl) rfl (by rw [Tryz.results103]) Tryz.ntmps103 ?_
  simp -implicitDefEqProofs [eVI]
  refine allocK.intro (fun b1 hb1 => ?_)
  simp -implicitDefEqProofs
  refine allocK.intro (fun b2 hb2 => ?_)
  have n12 : ¬ b1 = b2 := by rintro rfl; simp at hb2
  have n21 : ¬ b2 = b1 := fun h => n12 h.symm
  simp -implicitDefEqProofs [n12, n21]
  refine regionK.intro 12 follows_mixed (by kernel_rfl) ?_
  simp -implicitDefEqProofs [n12, n21]
  refine CallQ.with (ofVI_spec x) (by simp [eVI]) ?_
  simp -implicitDefEqProofs [n12, n21]
  refine CallQ.with (placeVI_spec l x.view hs (by omega) hr hx) (by simp [eV]) ?_
  have hpl := posK_le (key := keyVI) l (nameV x.view)
  simp -implicitDefEqProofs [n12, n21]
  have ek : nameV x.view = keyVI x := rfl
  rw [ek] at *
  have hcl := cloneVI_own l (by omega)
  refine CallK.own hcl (by simp) ?_
  rintro r (⟨tag, htag, rfl, hl0⟩ | ⟨hne, rfl⟩)
  · left
    refine ⟨tag, htag, rfl, ?_⟩
    subst hl0
    simp -implicitDefEqProofs [hasK, posK, n12, n21]
    refine CallK.fresh (insertVI_mn x) (by simp [eVI]) ?_
    rintro _ h' H ⟨b, c, sp, rfl, rfl, hsp⟩ - hH -
    have k1 := hH b _ (one_self _ _)
    clear hH
    simp -implicitDefEqProofs
    refine shiftK.freeze (b := b) (len := 1) (cap := c) 6 93 (rowsVI [x]) (by simp) (cells := eVI x ++ sp) k1 (by simpa [rowsVI] using chunksVI [x] sp) (by simp) ?_ ?_
    · rw [List.length_append, show (eVI x).length = 4 from rfl]; exact hsp
    have hp : putK keyVI [] x = [x] := rfl
    simp -implicitDefEqProofs [hp]
  · right
    refine ⟨_, _, _, _, rfl, hne, .inl rfl, fun b cap spare hb hcap hsp => ?_⟩
    have n1 : ¬ b = b1 := by rintro rfl; simp [n12] at hb
    have n1' : ¬ b1 = b := fun h => n1 h.symm
    have n2 : ¬ b = b2 := by rintro rfl; simp at hb
    have n2' : ¬ b2 = b := fun h => n2 h.symm
    have ed := dead2VI l
    have hl0 : 0 < l.length := by
      cases l with
      | nil => exact absurd rfl hne
      | cons => simp
    have hsp2 : l.length * 4 + (spare.map AV.v).length = cap * 4 := by simp at hsp ⊢; omega
    have hcl2 : ((rowsVI l).flatten ++ spare.map AV.v).length = cap * 4 := by rw [List.length_append, flenVI]; exact hsp2
    cases hh : hasK keyVI l (keyVI x)
    · simp -implicitDefEqProofs [n12, n21, n1, n1', n2, n2', ed, hh]
      refine CallK.mh (insertVI_sm l (posK keyVI l (keyVI x)) b cap (spare.map AV.v) x hl0 hpl (by omega) hsp2) (by simp [eVI]) (SubH_one.2 (by simp [Weak.refl])) ?_
      rintro _ h' H ⟨b', c', sp', rfl, rfl, hlen⟩ - hH -
      have k1 := hH b' _ (one_self _ _)
      clear hH
      have hil : (insVI l (posK keyVI l (keyVI x)) x).length = l.length + 1 := by
        unfold insVI
        rw [List.length_append, List.length_take, List.length_cons, List.length_drop]; omega
      rw [putKVI_new hs hh]
      generalize insVI l (posK keyVI l (keyVI x)) x = L at *
      simp -implicitDefEqProofs
      refine shiftK.freeze (b := b') (len := l.length + 1) (cap := c') 6 93 (rowsVI L) (by simp) k1 (chunksVI L sp') (by simp [hil]) ?_ ?_
      · rw [List.length_append, flenVI, hil]; exact hlen
      simp -implicitDefEqProofs
    · obtain ⟨hpe, hlt⟩ := putKVI_old hs hh
      rw [hpe]
      have hset : overlay ((rowsVI l).flatten ++ spare.map AV.v) (posK keyVI l (keyVI x) * 4) (eVI x) = (rowsVI (l.set (posK keyVI l (keyVI x)) x)).flatten ++ spare.map AV.v := by
        rw [flat_set (rowsVI_one l) rfl (by simpa using hlt)]
        simp [rowsVI, List.map_set]
      have hfit : posK keyVI l (keyVI x) * 4 + 4 ≤ ((rowsVI l).flatten ++ spare.map AV.v).length := flat_fits (rowsVI_one l) (by simpa using hlt)
      generalize posK keyVI l (keyVI x) = p at *
      have hlt' : (p : Int) < (l.length : Int) := by omega
      obtain ⟨L, hL⟩ : ∃ L, l.set p x = L := ⟨_, rfl⟩
      have hLl : L.length = l.length := by rw [← hL, List.length_set]
      rw [hL] at hset ⊢
      have hcol : ((rowsVI L).flatten ++ spare.map AV.v).length = cap * 4 := by rw [List.length_append, flenVI, hLl]; exact hsp2
      have hck := chunksVI L (spare.map AV.v)
      generalize (rowsVI L).flatten ++ spare.map AV.v = C2 at *
      simp -implicitDefEqProofs [n12, n21, n1, n1', n2, n2', ed, hh]
      generalize (rowsVI l).flatten ++ spare.map AV.v = C1 at *
      simp [overlay, eVI] at hset
      simp -implicitDefEqProofs [n12, n21, n1, n1', n2, n2', hlt, hlt', hfit, hset]
      refine shiftK.freeze (b := b) (len := l.length) (cap := cap) 6 93 (rowsVI L) (by simp) (by simp) hck (by simp [hLl]) hcol ?_
      simp -implicitDefEqProofs
end Go.Proofs.YtjbbfiagijjdoaaGreat

/- Contracts: what a state tells. No condition. -/
set_option linter.unusedSimpArgs false
set_option linter.unusedVariables false
set_option maxRecDepth 10000
namespace Go.Proofs.YtjbbfiagijjdoaaGreat
open Go Go.Rw Go.Proofs
-- a goal is never to be run by the elaborator
attribute [local irreducible] awp aops aop aopsE aeff

/-- a state that can be -/
structure OkS (s : PState) : Prop where
  sb : sortK keyVB s.books
  sc : sortK keyVC s.cells
  si : sortK keyVI s.intents
  rb : ∀ x ∈ s.books, rightV x.view = true
  rc : ∀ x ∈ s.cells, rightV x.view = true
  ri : ∀ x ∈ s.intents, rightV x.view = true
  rh : rightV s.held = true
  lb : s.books.length ≤ 100000
  lc : s.cells.length ≤ 100000
  li : s.intents.length ≤ 100000
  bl : ∀ x ∈ s.books, x.book.length ≤ 100000
  cl : ∀ x ∈ s.cells, x.cells.length ≤ 100000
def bookS (s : PState) (v : PView) : List PEntry := match s.books[posK keyVB s.books (nameV v)]? with | some x => if hasK keyVB s.books (nameV v) = true then x.book else [] | none => []
def cellsS (s : PState) (v : PView) : List PCell := match s.cells[posK keyVC s.cells (nameV v)]? with | some x => if hasK keyVC s.cells (nameV v) = true then x.cells else [] | none => []
theorem new_spec (v : PView) : ASpec Tryz.prog 62 [.agg (eV v)] (· = .agg (eSt ⟨[], [], [], v, 0, 0⟩)) := by
  refine ASpec.of_awp Tryz.func62 (by kernel_rfl) rfl (by rw [Tryz.results62]) Tryz.ntmps62 ?_
  simp -implicitDefEqProofs [eV]
  refine allocK.intro (fun b1 hb1 => ?_)
  simp -implicitDefEqProofs
  refine allocK.intro (fun b2 hb2 => ?_)
  have n12 : ¬ b1 = b2 := by rintro rfl; simp at hb2
  have n21 : ¬ b2 = b1 := fun h => n12 h.symm
  simp -implicitDefEqProofs [n12, n21, eSt]
theorem book_spec (s : PState) (v : PView) (hs : OkS s) (hv : rightV v = true) : ASpec Tryz.prog 37 [.agg (eSt s), .agg (eV v)] (fun r => ∃ tag, r = .sl tag (eEs (bookS s v))) := by
  refine ASpec.of_awp Tryz.func37 (by kernel_rfl) rfl (by rw [Tryz.results37]) Tryz.ntmps37 ?_
  simp -implicitDefEqProofs [eV, eSt]
  refine allocK.intro (fun b1 hb1 => ?_)
  simp -implicitDefEqProofs
  refine allocK.intro (fun b2 hb2 => ?_)
  have n12 : ¬ b1 = b2 := by rintro rfl; simp at hb2
  have n21 : ¬ b2 = b1 := fun h => n12 h.symm
  simp -implicitDefEqProofs [n12, n21]
  refine regionK.intro 10 follows_mixed (by kernel_rfl) ?_
  simp -implicitDefEqProofs [n12, n21]
  refine CallQ.with shelvedVB_spec rfl ?_
  simp -implicitDefEqProofs [n12, n21]
  refine CallQ.with (placeVB_spec s.books v hs.sb (by have := hs.lb; omega) hs.rb hv) (by simp [eV, rowsVB]) ?_
  have hat := hasK_at hs.sb (nameV v)
  unfold bookS
  rcases hat with ⟨x, hx, hk, hh⟩ | ⟨_, hh⟩
  · rw [hx, hh]
    have hlt : posK keyVB s.books (nameV v) < s.books.length := by
      rcases Nat.lt_or_ge (posK keyVB s.books (nameV v)) s.books.length with h | h
      · exact h
      · rw [List.getElem?_eq_none h] at hx; simp at hx
    have hbl := hs.bl x (List.mem_of_getElem? hx)
    generalize posK keyVB s.books (nameV v) = p at *
    have hlt' : (p : Int) < (s.books.length : Int) := by omega
    simp -implicitDefEqProofs [n12, n21, hx, hlt', eVB]
    refine CallK.via (clone_entries x.book (by omega)) rfl ?_
    rintro _ ⟨tag, _, rfl⟩
    simp -implicitDefEqProofs
  · rw [hh]
    have e : ∀ o : Option PVB, (match o with | some x => if false = true then x.book else [] | none => []) = ([] : List PEntry) := fun o => by cases o <;> simp
    rw [e]
    simp -implicitDefEqProofs [n12, n21]
theorem cells_spec (s : PState) (v : PView) (hs : OkS s) (hv : rightV v = true) : ASpec Tryz.prog 40 [.agg (eSt s), .agg (eV v)] (fun r => ∃ tag, r = .sl tag (eCs (cellsS s v))) := by
  refine ASpec.of_awp Tryz.func40 (by kernel_rfl) rfl (by rw [Tryz.results40]) Tryz.ntmps40 ?_
  simp -implicitDefEqProofs [eV, eSt]
  refine allocK.intro (fun b1 hb1 => ?_)
  simp -implicitDefEqProofs
  refine allocK.intro (fun b2 hb2 => ?_)
  have n12 : ¬ b1 = b2 := by rintro rfl; simp at hb2
  have n21 : ¬ b2 = b1 := fun h => n12 h.symm
  simp -implicitDefEqProofs [n12, n21]
  refine regionK.intro 10 follows_mixed (by kernel_rfl) ?_
  simp -implicitDefEqProofs [n12, n21]
  refine CallQ.with shelvedVC_spec rfl ?_
  simp -implicitDefEqProofs [n12, n21]
  refine CallQ.with (placeVC_spec s.cells v hs.sc (by have := hs.lc; omega) hs.rc hv) (by simp [eV, rowsVC]) ?_
  have hat := hasK_at hs.sc (nameV v)
  unfold cellsS
  rcases hat with ⟨x, hx, hk, hh⟩ | ⟨_, hh⟩
  · rw [hx, hh]
    have hlt : posK keyVC s.cells (nameV v) < s.cells.length := by
      rcases Nat.lt_or_ge (posK keyVC s.cells (nameV v)) s.cells.length with h | h
      · exact h
      · rw [List.getElem?_eq_none h] at hx; simp at hx
    have hbl := hs.cl x (List.mem_of_getElem? hx)
    generalize posK keyVC s.cells (nameV v) = p at *
    have hlt' : (p : Int) < (s.cells.length : Int) := by omega
    simp -implicitDefEqProofs [n12, n21, hx, hlt', eVC]
    refine CallK.via (clone_cells x.cells (by omega)) rfl ?_
    rintro _ ⟨tag, _, rfl⟩
    simp -implicitDefEqProofs
  · rw [hh]
    have e : ∀ o : Option PVC, (match o with | some x => if false = true then x.cells else [] | none => []) = ([] : List PCell) := fun o => by cases o <;> simp
    rw [e]
    simp -implicitDefEqProofs [n12, n21]
def intentS (s : PState) (v : PView) : Option PView := match s.intents[posK keyVI s.intents (nameV v)]? with | some x => if hasK keyVI s.intents (nameV v) = true then some x.change else none | none => none
def intentA (s : PState) (v : PView) : AV := .tup [.agg (eV ((intentS s v).getD ⟨0, 0⟩)), .v (.bool (intentS s v).isSome)]
theorem intent_spec (s : PState) (v : PView) (hs : OkS s) (hv : rightV v = true) : ASpec Tryz.prog 31 [.agg (eSt s), .agg (eV v)] (· = intentA s v) := by
  refine ASpec.of_awp Tryz.func31 (by kernel_rfl) rfl (by rw [Tryz.results31]) Tryz.ntmps31 ?_
  simp -implicitDefEqProofs [eV, eSt]
  refine allocK.intro (fun b1 hb1 => ?_)
  simp -implicitDefEqProofs
  refine allocK.intro (fun b2 hb2 => ?_)
  have n12 : ¬ b1 = b2 := by rintro rfl; simp at hb2
  have n21 : ¬ b2 = b1 := fun h => n12 h.symm
  simp -implicitDefEqProofs [n12, n21]
  refine allocK.intro (fun b3 hb3 => ?_)
  have n13 : ¬ b1 = b3 := by rintro rfl; simp [n12] at hb3
  have n31 : ¬ b3 = b1 := fun h => n13 h.symm
  have n23 : ¬ b2 = b3 := by rintro rfl; simp at hb3
  have n32 : ¬ b3 = b2 := fun h => n23 h.symm
  simp -implicitDefEqProofs [n12, n21, n13, n31, n23, n32]
  refine regionK.intro 10 follows_mixed (by kernel_rfl) ?_
  simp -implicitDefEqProofs [n12, n21, n13, n31, n23, n32]
  refine CallQ.with shelvedVI_spec rfl ?_
  simp -implicitDefEqProofs [n12, n21, n13, n31, n23, n32]
  refine CallQ.with (placeVI_spec s.intents v hs.si (by have := hs.li; omega) hs.ri hv) (by simp [eV, rowsVI]) ?_
  have hat := hasK_at hs.si (nameV v)
  unfold intentA intentS
  rcases hat with ⟨x, hx, hk, hh⟩ | ⟨_, hh⟩
  · rw [hx, hh]
    have hlt : posK keyVI s.intents (nameV v) < s.intents.length := by
      rcases Nat.lt_or_ge (posK keyVI s.intents (nameV v)) s.intents.length with h | h
      · exact h
      · rw [List.getElem?_eq_none h] at hx; simp at hx
    generalize posK keyVI s.intents (nameV v) = p at *
    have hlt' : (p : Int) < (s.intents.length : Int) := by omega
    simp -implicitDefEqProofs [n12, n21, n13, n31, n23, n32, hx, hlt', eVI, eV]
  · rw [hh]
    have e : ∀ o : Option PVI, (match o with | some x => if false = true then some x.change else none | none => none) = (none : Option PView) := fun o => by cases o <;> simp
    rw [e]
    simp -implicitDefEqProofs [n12, n21, n13, n31, n23, n32, eV]
end Go.Proofs.YtjbbfiagijjdoaaGreat

/- Contracts: the state behind a record. No condition. -/
set_option linter.unusedSimpArgs false
set_option linter.unusedVariables false
set_option maxRecDepth 10000
namespace Go.Proofs.YtjbbfiagijjdoaaGreat
open Go Go.Rw Go.Proofs
-- a goal is never to be run by the elaborator
attribute [local irreducible] awp aops aop aopsE aeff

def applyS (s : PState) (r : PRec) : PState :=
  if r.kind = 1 then { s with books := putK keyVB s.books ⟨r.view, mergeE (bookS s r.view) [r.entry]⟩ }
  else if r.kind = 2 then { s with cells := putK keyVC s.cells ⟨r.view, mergeS (cellsS s r.view) [r.cell]⟩ }
  else if r.kind = 3 then (if withinV s.held r.view = true then { s with held := r.view } else s)
  else if r.kind = 4 then { s with last := max s.last r.n }
  else if r.kind = 5 then (if (intentS s r.view).isSome = true then s else { s with intents := putK keyVI s.intents ⟨r.view, r.cell.change⟩ })
  else if r.kind = 6 then { s with inc := max s.inc r.n }
  else s
theorem apply_spec (s : PState) (r : PRec) (hs : OkS s) (hv : rightV r.view = true) (hc : (cellsS s r.view ++ newsC (cellsS s r.view) [r.cell]).length ≤ 12 ∧ 0 < (cellsS s r.view ++ newsC (cellsS s r.view) [r.cell]).length) :
    ASpec Tryz.prog 44 [.agg (eSt s), .agg (eRc r)] (· = .agg (eSt (applyS s r))) := by
  refine ASpec.of_awp Tryz.func44 (by kernel_rfl) rfl (by rw [Tryz.results44]) Tryz.ntmps44 ?_
  simp -implicitDefEqProofs [eRc, eSt]
  refine allocK.intro (fun b1 hb1 => ?_)
  simp -implicitDefEqProofs
  refine allocK.intro (fun b2 hb2 => ?_)
  have n12 : ¬ b1 = b2 := by rintro rfl; simp at hb2
  have n21 : ¬ b2 = b1 := fun h => n12 h.symm
  simp -implicitDefEqProofs [n12, n21]
  refine allocK.intro (fun b3 hb3 => ?_)
  have n13 : ¬ b1 = b3 := by rintro rfl; simp [n12] at hb3
  have n31 : ¬ b3 = b1 := fun h => n13 h.symm
  have n23 : ¬ b2 = b3 := by rintro rfl; simp at hb3
  have n32 : ¬ b3 = b2 := fun h => n23 h.symm
  by_cases h1 : r.kind = 1
  · simp -implicitDefEqProofs [n12, n21, n13, n31, n23, n32, h1]
    refine regionK.intro 9 follows_mixed (by kernel_rfl) ?_
    simp -implicitDefEqProofs [n12, n21, n13, n31, n23, n32]
    refine CallQ.of (x := .sl .no (eEs (bookS s r.view))) (by have := book_spec s r.view hs hv; simpa [eSt, eV] using this) (by rintro _ ⟨tag, rfl⟩; rfl) ?_
    simp -implicitDefEqProofs [n12, n21, n13, n31, n23, n32]
    refine CallQ.of (x := .sl .no (eEs (mergeE (bookS s r.view) [r.entry]))) (by have := merge_spec (bookS s r.view) [r.entry]; simpa [eEs, eE] using this) (by rintro _ ⟨tag, rfl⟩; rfl) ?_
    simp -implicitDefEqProofs [n12, n21, n13, n31, n23, n32]
    refine regionK.intro 9 follows_mixed (by kernel_rfl) ?_
    simp -implicitDefEqProofs [n12, n21, n13, n31, n23, n32]
    refine CallQ.with shelvedVB_spec rfl ?_
    simp -implicitDefEqProofs [n12, n21, n13, n31, n23, n32]
    refine CallQ.of (x := .sl .no (rowsVB (putK keyVB s.books ⟨r.view, mergeE (bookS s r.view) [r.entry]⟩))) (by have := putVB_spec s.books ⟨r.view, mergeE (bookS s r.view) [r.entry]⟩ hs.sb (by have := hs.lb; omega) hs.rb hv; simpa [rowsVB, eVB] using this) (by rintro _ ⟨tag, rfl⟩; rfl) ?_
    simp -implicitDefEqProofs [n12, n21, n13, n31, n23, n32, applyS, h1, eSt, rowsVB]
  · by_cases h2 : r.kind = 2
    · have h2' : (2 : Int) = 1 ↔ False := by decide
      simp -implicitDefEqProofs [n12, n21, n13, n31, n23, n32, h1, h2]
      refine regionK.intro 9 follows_mixed (by kernel_rfl) ?_
      simp -implicitDefEqProofs [n12, n21, n13, n31, n23, n32]
      refine CallQ.of (x := .sl .no (eCs (cellsS s r.view))) (by have := cells_spec s r.view hs hv; simpa [eSt, eV] using this) (by rintro _ ⟨tag, rfl⟩; rfl) ?_
      simp -implicitDefEqProofs [n12, n21, n13, n31, n23, n32]
      refine CallQ.of (x := .sl .no (eCs (mergeS (cellsS s r.view) [r.cell]))) (by have := cmerge_spec (cellsS s r.view) [r.cell] hc.1 hc.2 (by simp); simpa [eCs, eC] using this) (by rintro _ ⟨tag, rfl⟩; rfl) ?_
      simp -implicitDefEqProofs [n12, n21, n13, n31, n23, n32]
      refine regionK.intro 9 follows_mixed (by kernel_rfl) ?_
      simp -implicitDefEqProofs [n12, n21, n13, n31, n23, n32]
      refine CallQ.with shelvedVC_spec rfl ?_
      simp -implicitDefEqProofs [n12, n21, n13, n31, n23, n32]
      refine CallQ.of (x := .sl .no (rowsVC (putK keyVC s.cells ⟨r.view, mergeS (cellsS s r.view) [r.cell]⟩))) (by have := putVC_spec s.cells ⟨r.view, mergeS (cellsS s r.view) [r.cell]⟩ hs.sc (by have := hs.lc; omega) hs.rc hv; simpa [rowsVC, eVC] using this) (by rintro _ ⟨tag, rfl⟩; rfl) ?_
      simp -implicitDefEqProofs [n12, n21, n13, n31, n23, n32, applyS, h1, h2, eSt, rowsVC]
    · by_cases h3 : r.kind = 3
      · simp -implicitDefEqProofs [n12, n21, n13, n31, n23, n32, h1, h2, h3]
        refine CallK.with (within_spec s.held r.view hs.rh hv) (by simp [eV]) ?_
        cases hw : withinV s.held r.view
        · simp -implicitDefEqProofs [n12, n21, n13, n31, n23, n32, applyS, h1, h2, h3, hw, eSt]
        · simp -implicitDefEqProofs [n12, n21, n13, n31, n23, n32, applyS, h1, h2, h3, hw, eSt]
      · by_cases h4 : r.kind = 4
        · simp -implicitDefEqProofs [n12, n21, n13, n31, n23, n32, h1, h2, h3, h4, applyS, eSt]
          split <;> omega
        · by_cases h5 : r.kind = 5
          · simp -implicitDefEqProofs [n12, n21, n13, n31, n23, n32, h1, h2, h3, h4, h5]
            refine CallK.with (intent_spec s r.view hs hv) (by simp [eSt, eV]) ?_
            rw [intentA]
            simp -implicitDefEqProofs [n12, n21, n13, n31, n23, n32, eV]
            refine allocK.intro (fun b4 hb4 => ?_)
            have n14 : ¬ b1 = b4 := by rintro rfl; simp [n12, n13] at hb4
            have n41 : ¬ b4 = b1 := fun h => n14 h.symm
            have n24 : ¬ b2 = b4 := by rintro rfl; simp [n23] at hb4
            have n42 : ¬ b4 = b2 := fun h => n24 h.symm
            have n34 : ¬ b3 = b4 := by rintro rfl; simp at hb4
            have n43 : ¬ b4 = b3 := fun h => n34 h.symm
            cases ho : (intentS s r.view).isSome
            · simp -implicitDefEqProofs [n12, n21, n13, n31, n23, n32, n14, n41, n24, n42, n34, n43]
              refine regionK.intro 11 follows_mixed (by kernel_rfl) ?_
              simp -implicitDefEqProofs [n12, n21, n13, n31, n23, n32, n14, n41, n24, n42, n34, n43]
              refine CallQ.with shelvedVI_spec rfl ?_
              simp -implicitDefEqProofs [n12, n21, n13, n31, n23, n32, n14, n41, n24, n42, n34, n43]
              refine CallQ.of (x := .sl .no (rowsVI (putK keyVI s.intents ⟨r.view, r.cell.change⟩))) (by have := putVI_spec s.intents ⟨r.view, r.cell.change⟩ hs.si (by have := hs.li; omega) hs.ri hv; simpa [rowsVI, eVI] using this) (by rintro _ ⟨tag, rfl⟩; rfl) ?_
              simp -implicitDefEqProofs [n12, n21, n13, n31, n23, n32, n14, n41, n24, n42, n34, n43, applyS, h1, h2, h3, h4, h5, ho, eSt, rowsVI]
            · simp -implicitDefEqProofs [n12, n21, n13, n31, n23, n32, n14, n41, n24, n42, n34, n43, applyS, h1, h2, h3, h4, h5, ho, eSt]
          · by_cases h6 : r.kind = 6
            · simp -implicitDefEqProofs [n12, n21, n13, n31, n23, n32, h1, h2, h3, h4, h5, h6, applyS, eSt]
              split <;> omega
            · simp -implicitDefEqProofs [n12, n21, n13, n31, n23, n32, h1, h2, h3, h4, h5, h6, applyS, eSt]
end Go.Proofs.YtjbbfiagijjdoaaGreat

/- Plain: states that can be stay so. No condition. -/
set_option linter.unusedSimpArgs false
set_option linter.unusedVariables false
set_option maxRecDepth 10000
namespace Go.Proofs.YtjbbfiagijjdoaaGreat
open Go Go.Rw Go.Proofs

section
variable {α : Type} {key : α → Int}
theorem sort_put {l : List α} (h : sortK key l) (x : α) : sortK key (putK key l x) := by
  unfold sortK putK
  rw [List.pairwise_append, List.pairwise_cons]
  refine ⟨h.filter _, ⟨fun y hy => ?_, h.filter _⟩, fun y hy z hz => ?_⟩
  · have := (List.mem_filter.1 hy).2
    simpa using this
  · have h1 := (List.mem_filter.1 hy).2
    simp at h1
    rcases List.mem_cons.1 hz with rfl | hz
    · exact h1
    · have h2 := (List.mem_filter.1 hz).2
      simp at h2; omega
theorem mem_put {l : List α} {x y : α} (h : y ∈ putK key l x) : y = x ∨ y ∈ l := by
  unfold putK at h
  rcases List.mem_append.1 h with h | h
  · exact .inr (List.mem_filter.1 h).1
  · rcases List.mem_cons.1 h with h | h
    · exact .inl h
    · exact .inr (List.mem_filter.1 h).1
theorem put_len {l : List α} (h : sortK key l) (x : α) : (putK key l x).length ≤ l.length + 1 := by
  unfold putK
  rw [List.length_append, List.length_cons]
  have h1 : (l.filter fun y => decide (key x < key y)).length ≤ (l.filter fun y => decide (¬ key y < key x)).length := by
    rw [← List.countP_eq_length_filter, ← List.countP_eq_length_filter]
    refine List.countP_mono_left fun y _ hy => ?_
    simp at hy ⊢; omega
  obtain ⟨t1, t2⟩ := take_posK h (key x)
  rw [← t2] at h1
  have h2 : (l.filter fun y => decide (key y < key x)).length = (l.take (posK key l (key x))).length := by rw [t1]
  rw [h2, List.length_take]
  rw [List.length_drop] at h1
  have := posK_le (key := key) l (key x)
  omega
end
/-- a state behind at most n records -/
structure OkN (n : Nat) (s : PState) : Prop where
  sb : sortK keyVB s.books
  sc : sortK keyVC s.cells
  si : sortK keyVI s.intents
  rb : ∀ x ∈ s.books, rightV x.view = true
  rc : ∀ x ∈ s.cells, rightV x.view = true
  ri : ∀ x ∈ s.intents, rightV x.view = true
  rh : rightV s.held = true
  lb : s.books.length ≤ n
  lc : s.cells.length ≤ n
  li : s.intents.length ≤ n
  bl : ∀ x ∈ s.books, x.book.length ≤ 4
  cl : ∀ x ∈ s.cells, okCs x.cells
theorem OkN.ok {n : Nat} {s : PState} (h : OkN n s) (hn : n ≤ 100000) : OkS s :=
  ⟨h.sb, h.sc, h.si, h.rb, h.rc, h.ri, h.rh, by have := h.lb; omega, by have := h.lc; omega, by have := h.li; omega, fun x hx => by have := h.bl x hx; omega, fun x hx => by have := okCs_len (h.cl x hx); omega⟩
theorem okCs_nil : okCs [] := ⟨List.Pairwise.nil, fun x hx => by simp at hx⟩
theorem OkN.cells {n : Nat} {s : PState} (h : OkN n s) (v : PView) : okCs (cellsS s v) := by
  unfold cellsS
  split
  · rename_i x hx
    split
    · exact h.cl x (List.mem_of_getElem? hx)
    · exact okCs_nil
  · exact okCs_nil
theorem right_cell {r : PRec} (h : rightR r = true) : rightV r.view = true ∧ 0 ≤ r.cell.node ∧ r.cell.node < 6 := by
  simp [rightR] at h
  exact ⟨h.1.1.1.2, h.1.2.1, h.1.2.2⟩
theorem okCs_one {c : PCell} (h : 0 ≤ c.node ∧ c.node < 6) : okCs [c] := ⟨by simp, fun x hx => by simp at hx; subst hx; exact h⟩
theorem OkN.news {n : Nat} {s : PState} (h : OkN n s) {r : PRec} (hr : rightR r = true) : (cellsS s r.view ++ newsC (cellsS s r.view) [r.cell]).length ≤ 12 ∧ 0 < (cellsS s r.view ++ newsC (cellsS s r.view) [r.cell]).length := by
  refine ⟨news_len (h.cells r.view) (okCs_one (right_cell hr).2), ?_⟩
  rw [List.length_append]
  cases hc : cellsS s r.view with
  | nil => simp [newsC, ofC]
  | cons => simp only [List.length_cons]; omega
theorem OkN.mono {n m : Nat} {s : PState} (h : OkN n s) (hn : n ≤ m) : OkN m s :=
  ⟨h.sb, h.sc, h.si, h.rb, h.rc, h.ri, h.rh, by have := h.lb; omega, by have := h.lc; omega, by have := h.li; omega, h.bl, h.cl⟩
theorem okN_apply {n : Nat} {s : PState} (h : OkN n s) {r : PRec} (hr : rightR r = true) : OkN (n + 1) (applyS s r) := by
  have hv := (right_cell hr).1
  unfold applyS
  split
  · have hl := put_len h.sb ⟨r.view, mergeE (bookS s r.view) [r.entry]⟩
    refine ⟨sort_put h.sb _, h.sc, h.si, fun x hx => ?_, h.rc, h.ri, h.rh, by have := h.lb; simp only; omega, by have := h.lc; simp only; omega, by have := h.li; simp only; omega, fun x hx => ?_, h.cl⟩
    · rcases mem_put hx with rfl | hx
      · exact hv
      · exact h.rb x hx
    · rcases mem_put hx with rfl | hx
      · exact mergeK_le _ _ 4
      · exact h.bl x hx
  · split
    · have hl := put_len h.sc ⟨r.view, mergeS (cellsS s r.view) [r.cell]⟩
      refine ⟨h.sb, sort_put h.sc _, h.si, h.rb, fun x hx => ?_, h.ri, h.rh, by have := h.lb; simp only; omega, by have := h.lc; simp only; omega, by have := h.li; simp only; omega, h.bl, fun x hx => ?_⟩
      · rcases mem_put hx with rfl | hx
        · exact hv
        · exact h.rc x hx
      · rcases mem_put hx with rfl | hx
        · show okCs (mergeS (cellsS s r.view) [r.cell])
          rw [mergeS_eq (h.cells r.view) (okCs_one (right_cell hr).2)]
          exact okCs_merge _ _
        · exact h.cl x hx
    · split
      · split
        · exact ⟨h.sb, h.sc, h.si, h.rb, h.rc, h.ri, hv, by have := h.lb; simp only; omega, by have := h.lc; simp only; omega, by have := h.li; simp only; omega, h.bl, h.cl⟩
        · exact h.mono (by omega)
      · split
        · exact ⟨h.sb, h.sc, h.si, h.rb, h.rc, h.ri, h.rh, by have := h.lb; simp only; omega, by have := h.lc; simp only; omega, by have := h.li; simp only; omega, h.bl, h.cl⟩
        · split
          · split
            · exact h.mono (by omega)
            · have hl := put_len h.si ⟨r.view, r.cell.change⟩
              refine ⟨h.sb, h.sc, sort_put h.si _, h.rb, h.rc, fun x hx => ?_, h.rh, by have := h.lb; simp only; omega, by have := h.lc; simp only; omega, by have := h.li; simp only; omega, h.bl, h.cl⟩
              rcases mem_put hx with rfl | hx
              · exact hv
              · exact h.ri x hx
          · split
            · exact ⟨h.sb, h.sc, h.si, h.rb, h.rc, h.ri, h.rh, by have := h.lb; simp only; omega, by have := h.lc; simp only; omega, by have := h.li; simp only; omega, h.bl, h.cl⟩
            · exact h.mono (by omega)
/-- the state behind records -/
def newS (v : PView) : PState := ⟨[], [], [], v, 0, 0⟩
def foldS (v : PView) (l : List PRec) : PState := l.foldl applyS (newS v)
theorem okN_new {v : PView} (h : rightV v = true) : OkN 0 (newS v) :=
  ⟨List.Pairwise.nil, List.Pairwise.nil, List.Pairwise.nil, fun x hx => by simp [newS] at hx, fun x hx => by simp [newS] at hx, fun x hx => by simp [newS] at hx, h, Nat.le_refl _, Nat.le_refl _, Nat.le_refl _, fun x hx => by simp [newS] at hx, fun x hx => by simp [newS] at hx⟩
theorem foldS_step {v : PView} {l : List PRec} {k : Nat} {r : PRec} (h : l[k]? = some r) : foldS v (l.take (k + 1)) = applyS (foldS v (l.take k)) r := by
  unfold foldS
  rw [List.take_add_one, h, List.foldl_append]; rfl
theorem okN_fold {v : PView} (hv : rightV v = true) {l : List PRec} (hl : ∀ r ∈ l, rightR r = true) (k : Nat) (hk : k ≤ l.length) : OkN k (foldS v (l.take k)) := by
  induction k with
  | zero => simpa [foldS] using okN_new hv
  | succ k ih =>
    have hx : l[k]? = some l[k] := List.getElem?_eq_getElem (by omega)
    rw [foldS_step hx]
    exact okN_apply (ih (by omega)) (hl _ (List.mem_of_getElem? hx))
end Go.Proofs.YtjbbfiagijjdoaaGreat

/- Plain: what a state tells behind a record. No condition. -/
set_option linter.unusedSimpArgs false
set_option linter.unusedVariables false
set_option maxRecDepth 10000
namespace Go.Proofs.YtjbbfiagijjdoaaGreat
open Go Go.Rw Go.Proofs

section
variable {α : Type} {key : α → Int}
/-- what stands behind a name -/
def lookK (key : α → Int) (l : List α) (n : Int) : Option α := l.find? fun x => decide (key x = n)
theorem look_none {l : List α} {n : Int} : lookK key l n = none ↔ ∀ x ∈ l, ¬ key x = n := by
  unfold lookK; simp
theorem look_some {l : List α} {n : Int} {x : α} (h : lookK key l n = some x) : x ∈ l ∧ key x = n :=
  ⟨List.mem_of_find?_eq_some h, by simpa using List.find?_some h⟩
theorem key_inj {l : List α} (hl : sortK key l) {x y : α} (hx : x ∈ l) (hy : y ∈ l) (h : key x = key y) : x = y := by
  unfold sortK at hl
  induction l with
  | nil => simp at hx
  | cons z l ih =>
    rw [List.pairwise_cons] at hl
    rcases List.mem_cons.1 hx with hx1 | hx1
    · rcases List.mem_cons.1 hy with hy1 | hy1
      · rw [hx1, hy1]
      · have := hl.1 y hy1; rw [hx1] at h; omega
    · rcases List.mem_cons.1 hy with hy1 | hy1
      · have := hl.1 x hx1; rw [hy1] at h; omega
      · exact ih hl.2 hx1 hy1
theorem look_mem {l : List α} (hl : sortK key l) {x : α} : x ∈ l ↔ lookK key l (key x) = some x := by
  constructor
  · intro hx
    cases h : lookK key l (key x) with
    | none => exact absurd rfl (look_none.1 h x hx)
    | some y =>
      obtain ⟨h1, h2⟩ := look_some h
      rw [key_inj hl h1 hx h2]
  · exact fun h => (look_some h).1
theorem look_put (l : List α) (x : α) (n : Int) : lookK key (putK key l x) n = if key x = n then some x else lookK key l n := by
  unfold lookK putK
  rw [List.find?_append, List.find?_cons, List.find?_filter, List.find?_filter]
  by_cases h : key x = n
  · have e : l.find? (fun y => decide (decide (key y < key x) = true ∧ decide (key y = n) = true)) = none := List.find?_eq_none.2 fun y _ => by simp; omega
    rw [if_pos h, e]
    simp [h]
  · rw [if_neg h]
    rcases Int.lt_or_gt_of_ne h with h1 | h1
    · have e1 : l.find? (fun y => decide (decide (key y < key x) = true ∧ decide (key y = n) = true)) = none := List.find?_eq_none.2 fun y _ => by simp; omega
      have e2 : (fun y => decide (decide (key x < key y) = true ∧ decide (key y = n) = true)) = fun y => decide (key y = n) := by funext y; by_cases h2 : key y = n <;> simp [h2]; omega
      rw [e1, e2]
      simp [h]
    · have e1 : l.find? (fun y => decide (decide (key x < key y) = true ∧ decide (key y = n) = true)) = none := List.find?_eq_none.2 fun y _ => by simp; omega
      have e2 : (fun y => decide (decide (key y < key x) = true ∧ decide (key y = n) = true)) = fun y => decide (key y = n) := by funext y; by_cases h2 : key y = n <;> simp [h2]; omega
      rw [e1, e2]
      simp [h]
theorem nodupK {l : List α} (hl : sortK key l) : l.Nodup := hl.imp fun h => by rintro rfl; omega
end
theorem name_inj {v w : PView} (hv : rightV v = true) (hw : rightV w = true) (h : nameV v = nameV w) : v = w := by
  rw [← viewN_name hv, ← viewN_name hw, h]
theorem bookS_look {s : PState} (h : sortK keyVB s.books) (v : PView) : bookS s v = ((lookK keyVB s.books (nameV v)).map (·.book)).getD [] := by
  unfold bookS
  rcases hasK_at h (nameV v) with ⟨x, hx, hk, hh⟩ | ⟨_, hh⟩
  · rw [hx, hh, ← hk, (look_mem h).1 (List.mem_of_getElem? hx)]
    simp
  · have e : lookK keyVB s.books (nameV v) = none := look_none.2 fun x hx hk => by
      have : hasK keyVB s.books (nameV v) = true := by rw [hasK, List.any_eq_true]; exact ⟨x, hx, by simpa using hk⟩
      rw [hh] at this; simp at this
    rw [e, hh]
    split <;> simp
theorem cellsS_look {s : PState} (h : sortK keyVC s.cells) (v : PView) : cellsS s v = ((lookK keyVC s.cells (nameV v)).map (·.cells)).getD [] := by
  unfold cellsS
  rcases hasK_at h (nameV v) with ⟨x, hx, hk, hh⟩ | ⟨_, hh⟩
  · rw [hx, hh, ← hk, (look_mem h).1 (List.mem_of_getElem? hx)]
    simp
  · have e : lookK keyVC s.cells (nameV v) = none := look_none.2 fun x hx hk => by
      have : hasK keyVC s.cells (nameV v) = true := by rw [hasK, List.any_eq_true]; exact ⟨x, hx, by simpa using hk⟩
      rw [hh] at this; simp at this
    rw [e, hh]
    split <;> simp
theorem intentS_look {s : PState} (h : sortK keyVI s.intents) (v : PView) : intentS s v = (lookK keyVI s.intents (nameV v)).map (·.change) := by
  unfold intentS
  rcases hasK_at h (nameV v) with ⟨x, hx, hk, hh⟩ | ⟨_, hh⟩
  · rw [hx, hh, ← hk, (look_mem h).1 (List.mem_of_getElem? hx)]
    simp
  · have e : lookK keyVI s.intents (nameV v) = none := look_none.2 fun x hx hk => by
      have : hasK keyVI s.intents (nameV v) = true := by rw [hasK, List.any_eq_true]; exact ⟨x, hx, by simpa using hk⟩
      rw [hh] at this; simp at this
    rw [e, hh]
    split <;> simp
/-! ### behind a record -/
theorem apply_books (s : PState) (r : PRec) (n : Int) : lookK keyVB (applyS s r).books n = if r.kind = 1 ∧ nameV r.view = n then some ⟨r.view, mergeE (bookS s r.view) [r.entry]⟩ else lookK keyVB s.books n := by
  unfold applyS
  by_cases h1 : r.kind = 1
  · simp only [h1, if_true, true_and]
    rw [look_put]
    rfl
  · have : ¬ (r.kind = 1 ∧ nameV r.view = n) := fun h => h1 h.1
    rw [if_neg this]
    simp only [h1, if_false]
    repeat' split
    all_goals rfl
theorem apply_cells (s : PState) (r : PRec) (n : Int) : lookK keyVC (applyS s r).cells n = if r.kind = 2 ∧ nameV r.view = n then some ⟨r.view, mergeS (cellsS s r.view) [r.cell]⟩ else lookK keyVC s.cells n := by
  unfold applyS
  by_cases h1 : r.kind = 2
  · have h2 : ¬ r.kind = 1 := by omega
    simp only [h1, h2, if_true, true_and, if_false]
    rw [if_neg (by omega), look_put]
    rfl
  · have : ¬ (r.kind = 2 ∧ nameV r.view = n) := fun h => h1 h.1
    rw [if_neg this]
    simp only [h1, if_false]
    repeat' split
    all_goals rfl
theorem apply_intents (s : PState) (r : PRec) (n : Int) : lookK keyVI (applyS s r).intents n = if r.kind = 5 ∧ (intentS s r.view).isSome = false ∧ nameV r.view = n then some ⟨r.view, r.cell.change⟩ else lookK keyVI s.intents n := by
  unfold applyS
  by_cases h1 : r.kind = 5
  · have h2 : ¬ r.kind = 1 := by omega
    have h3 : ¬ r.kind = 2 := by omega
    have h4 : ¬ r.kind = 3 := by omega
    have h5 : ¬ r.kind = 4 := by omega
    rw [if_neg h2, if_neg h3, if_neg h4, if_neg h5, if_pos h1]
    cases ho : (intentS s r.view).isSome
    · simp only [h1, true_and, Bool.false_eq_true, if_false]
      rw [look_put]
      rfl
    · simp
  · have : ¬ (r.kind = 5 ∧ (intentS s r.view).isSome = false ∧ nameV r.view = n) := fun h => h1 h.1
    rw [if_neg this]
    simp only [h1, if_false]
    repeat' split
    all_goals rfl
theorem apply_held (s : PState) (r : PRec) : (applyS s r).held = if r.kind = 3 ∧ withinV s.held r.view = true then r.view else s.held := by
  unfold applyS
  by_cases h1 : r.kind = 3
  · rw [if_neg (by omega), if_neg (by omega), if_pos h1]
    by_cases h2 : withinV s.held r.view = true
    · rw [if_pos h2, if_pos ⟨h1, h2⟩]
    · rw [if_neg h2, if_neg (fun h => h2 h.2)]
  · have : ¬ (r.kind = 3 ∧ withinV s.held r.view = true) := fun h => h1 h.1
    rw [if_neg this]
    simp only [h1, if_false]
    repeat' split
    all_goals rfl
theorem apply_last (s : PState) (r : PRec) : (applyS s r).last = if r.kind = 4 then max s.last r.n else s.last := by
  unfold applyS
  by_cases h1 : r.kind = 4
  · rw [if_neg (by omega), if_neg (by omega), if_neg (by omega), if_pos h1, if_pos h1]
  · rw [if_neg h1]
    simp only [h1, if_false]
    repeat' split
    all_goals rfl
theorem apply_inc (s : PState) (r : PRec) : (applyS s r).inc = if r.kind = 6 then max s.inc r.n else s.inc := by
  unfold applyS
  by_cases h1 : r.kind = 6
  · rw [if_neg (by omega), if_neg (by omega), if_neg (by omega), if_neg (by omega), if_neg (by omega), if_pos h1, if_pos h1]
  · rw [if_neg h1]
    simp only [h1, if_false]
    repeat' split
    all_goals rfl
theorem bookS_apply {n : Nat} {s : PState} (h : OkN n s) {r : PRec} (hr : rightR r = true) {v : PView} (hv : rightV v = true) : bookS (applyS s r) v = if r.kind = 1 ∧ r.view = v then mergeE (bookS s v) [r.entry] else bookS s v := by
  rw [bookS_look (okN_apply h hr).sb, apply_books, bookS_look h.sb v]
  by_cases h1 : r.kind = 1 ∧ r.view = v
  · obtain ⟨h1, rfl⟩ := h1
    rw [if_pos ⟨h1, rfl⟩, if_pos ⟨h1, rfl⟩, bookS_look h.sb]
    rfl
  · rw [if_neg h1, if_neg (fun h2 => h1 ⟨h2.1, name_inj (right_cell hr).1 hv h2.2⟩)]
theorem cellsS_apply {n : Nat} {s : PState} (h : OkN n s) {r : PRec} (hr : rightR r = true) {v : PView} (hv : rightV v = true) : cellsS (applyS s r) v = if r.kind = 2 ∧ r.view = v then mergeC (cellsS s v) [r.cell] else cellsS s v := by
  rw [cellsS_look (okN_apply h hr).sc, apply_cells, cellsS_look h.sc v]
  by_cases h1 : r.kind = 2 ∧ r.view = v
  · obtain ⟨h1, rfl⟩ := h1
    rw [if_pos ⟨h1, rfl⟩, if_pos ⟨h1, rfl⟩, mergeS_eq (h.cells r.view) (okCs_one (right_cell hr).2), cellsS_look h.sc]
    rfl
  · rw [if_neg h1, if_neg (fun h2 => h1 ⟨h2.1, name_inj (right_cell hr).1 hv h2.2⟩)]
theorem intentS_apply {n : Nat} {s : PState} (h : OkN n s) {r : PRec} (hr : rightR r = true) {v : PView} (hv : rightV v = true) : intentS (applyS s r) v = if r.kind = 5 ∧ r.view = v ∧ intentS s v = none then some r.cell.change else intentS s v := by
  rw [intentS_look (okN_apply h hr).si, apply_intents]
  by_cases h1 : r.kind = 5 ∧ r.view = v ∧ intentS s v = none
  · obtain ⟨h1, rfl, h2⟩ := h1
    rw [if_pos ⟨h1, by rw [h2]; rfl, rfl⟩, if_pos ⟨h1, rfl, h2⟩]
    rfl
  · rw [if_neg h1, if_neg, intentS_look h.si]
    rintro ⟨h2, h3, h4⟩
    have h5 := name_inj (right_cell hr).1 hv h4
    exact h1 ⟨h2, h5, by rw [h5] at h3; simpa using h3⟩
end Go.Proofs.YtjbbfiagijjdoaaGreat

/- Plain laws: records there and back. No condition. -/
set_option linter.unusedSimpArgs false
set_option linter.unusedVariables false
namespace Go.Proofs.YtjbbfiagijjdoaaGreat
open Go Go.Rw Go.Proofs

theorem bitsF_zero : bitsF 0 = 0 := by decide
theorem bitsF_is_zero {b : Nat} (h : bitsF b = 0) : b = 0 := by
  unfold bitsF cleanB at h
  split at h
  · simp at h
  · exact h
theorem sameE_iff (x y : PEntry) : sameE x y = true ↔ x.key = y.key ∧ x.tag = y.tag ∧ bitsF x.value = bitsF y.value := by
  simp [sameE, and_assoc]
theorem sameR_iff (a b : PRec) : sameR a b = true ↔ a.kind = b.kind ∧ a.view = b.view ∧ a.cell = b.cell ∧ a.n = b.n ∧ sameE a.entry b.entry = true := by
  obtain ⟨k, ⟨v1, v2⟩, ⟨c, ⟨c1, c2⟩⟩, e, n⟩ := a
  obtain ⟨k', ⟨v1', v2'⟩, ⟨c', ⟨c1', c2'⟩⟩, e', n'⟩ := b
  simp [sameR, and_assoc]
theorem sameE_zero (x : PEntry) : sameE x zE = true ↔ x = zE := by
  obtain ⟨k, ⟨t1, t2⟩, v⟩ := x
  simp only [sameE_iff, zE, PEntry.mk.injEq, PTag.mk.injEq, bitsF_zero]
  constructor
  · rintro ⟨h1, h2, h3⟩; exact ⟨h1, h2, bitsF_is_zero h3⟩
  · rintro ⟨h1, h2, rfl⟩; exact ⟨h1, h2, bitsF_zero⟩
/-- its value's bits in one form -/
def cleanR (r : PRec) : PRec := { r with entry := cleanE bitsF r.entry }
inductive RightR (r : PRec) : Prop
  | value (v : PView) (e : PEntry) (h : r = ⟨1, v, zC, e, 0⟩) (hv : rightV v = true) (h1 : 0 ≤ e.key) (h2 : e.key < 4) (h3 : rightT e.tag = true) (h4 : e.tag.num ≠ 0)
  | cell (v : PView) (c : PCell) (h : r = ⟨2, v, c, zE, 0⟩) (hv : rightV v = true) (h1 : 0 ≤ c.node) (h2 : c.node < 6) (h3 : rightV c.change = true) (h4 : 0 < sizeV c.change)
  | mark (v : PView) (h : r = ⟨3, v, zC, zE, 0⟩) (hv : rightV v = true)
  | num (k n : Int) (h : r = ⟨k, zV, zC, zE, n⟩) (hk : k = 4 ∨ k = 6) (h1 : 1 ≤ n) (h2 : n ≤ 1000000)
  | intent (v u : PView) (h : r = ⟨5, v, ⟨0, u⟩, zE, 0⟩) (hv : rightV v = true) (hu : rightV u = true) (h4 : 0 < sizeV u)
theorem rightR_of {r : PRec} (h : rightR r = true) : RightR r := by
  obtain ⟨k, v, ⟨cn, cc⟩, e, n⟩ := r
  simp only [rightR, Bool.and_eq_true, decide_eq_true_eq, sameR_iff] at h
  obtain ⟨⟨⟨⟨⟨hk, hs⟩, hv⟩, hc⟩, hn⟩, hx⟩ := h
  by_cases k1 : k = 1
  · subst k1
    simp only [bareR, if_true, true_and] at hs hx
    obtain ⟨hs1, hs2, _⟩ := hs
    have := okE_of (show okE (-1) e = true by simpa [checkE] using hx)
    exact .value v e (by rw [hs1, hs2]) hv (by omega) this.2.1 this.2.2.1 this.2.2.2
  by_cases k2 : k = 2
  · subst k2
    simp [bareR, sameE_zero] at hs hx
    obtain ⟨rfl, rfl⟩ := hs
    exact .cell v _ rfl hv hn.1 hn.2 hc hx
  by_cases k5 : k = 5
  · subst k5
    simp [bareR, sameE_zero] at hs hx
    obtain ⟨rfl, rfl, rfl⟩ := hs
    exact .intent v _ rfl hv hc hx
  by_cases k3 : k = 3
  · subst k3
    simp [bareR, sameE_zero] at hs hx
    obtain ⟨hs1, rfl, rfl⟩ := hs
    exact .mark v (by rw [hs1]) hv
  have k46 : k = 4 ∨ k = 6 := by omega
  have hb : bareR ⟨k, v, ⟨cn, cc⟩, e, n⟩ = ⟨k, zV, zC, zE, n⟩ := by unfold bareR; simp [k1, k2, k3, k5, k46]
  rw [hb] at hs
  simp [sameE_zero] at hs
  obtain ⟨rfl, hs1, rfl⟩ := hs
  simp [k1, k2, k5, k46] at hx
  exact .num k n (by rw [hs1]) k46 hx.1 hx.2
theorem rightV_zero : rightV zV = true := by decide
end Go.Proofs.YtjbbfiagijjdoaaGreat
