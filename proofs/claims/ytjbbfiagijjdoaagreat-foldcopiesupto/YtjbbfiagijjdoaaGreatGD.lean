/- Parts of the proof: what is used by the law. No condition. -/
import Derived.Test.YtjbbfiagijjdoaaGreatGC
set_option linter.unusedSimpArgs false
set_option linter.unusedVariables false
/- Contracts: where something stands by its view (api.ViewIntent). Printed by sort/gen.py. No condition. -/
set_option linter.unusedSimpArgs false
set_option linter.unusedVariables false
set_option maxRecDepth 10000
namespace Go.Proofs.YtjbbfiagijjdoaaGreat
open Go Go.Rw Go.Proofs
-- a goal is never to be run by the elaborator
attribute [local irreducible] awp aops aop aopsE aeff

@[simp] theorem vTfVI : vT Tryz.prog 103 = some (1, false) := by kernel_rfl
def keyVI (x : PVI) : Int := nameV x.view
def rowsVI (l : List PVI) : List (List AV) := l.map eVI
@[simp] theorem rowsVI_length (l : List PVI) : (rowsVI l).length = l.length := by simp [rowsVI]
@[simp] theorem rowsVI_get (l : List PVI) (i : Nat) : (rowsVI l)[i]? = (l[i]?).map eVI := by simp [rowsVI]
@[simp] theorem rowsVI_nil : rowsVI [] = [] := rfl
@[simp] theorem rowsVI_append (l m : List PVI) : rowsVI l ++ rowsVI m = rowsVI (l ++ m) := by simp [rowsVI]
theorem rowsVI_one (l : List PVI) : ∀ r ∈ rowsVI l, r.length = 4 := by
  intro r hr
  obtain ⟨c, _, rfl⟩ := List.mem_map.1 hr
  rfl
@[simp] theorem rowsVI_rows (l : List PVI) : (∀ r : List AV, r ∈ rowsVI l → r.length = 4) ↔ True := iff_of_true (rowsVI_one l) trivial
theorem ofVI_spec (x : PVI) : ASpec Tryz.prog 80 [.agg (eVI x)] (· = .agg (eV x.view)) := by
  refine ASpec.of_awp Tryz.func80 (by kernel_rfl) rfl (by rw [Tryz.results80]) Tryz.ntmps80 ?_
  simp -implicitDefEqProofs [eVI]
  refine allocK.intro (fun b1 hb1 => ?_)
  simp -implicitDefEqProofs
  refine allocK.intro (fun b2 hb2 => ?_)
  have n12 : ¬ b1 = b2 := by rintro rfl; simp at hb2
  have n21 : ¬ b2 = b1 := fun h => n12 h.symm
  simp -implicitDefEqProofs [n12, n21, eV]
theorem shelvedVI_spec : ASpec Tryz.prog 79 [.fn 80 []] (· = .agg [.fn 80 []]) := by
  refine ASpec.of_awp Tryz.func79 (by kernel_rfl) rfl (by rw [Tryz.results79]) Tryz.ntmps79 ?_
  simp -implicitDefEqProofs
  refine allocK.intro (fun b1 hb1 => ?_)
  simp -implicitDefEqProofs
theorem placeKeyVI_spec (x : PVI) (b : Nat) (n : Int) (h : rightV x.view = true) : MSpec Tryz.prog 142 [.agg (eVI x), eI n, .ptr b 0] (one b [.fn 80 []]) (fun r h' => r = eI (cmpI (keyVI x) n) ∧ h' = one b [.fn 80 []]) := by
  refine MSpec.of_awp Tryz.func142 (by kernel_rfl) rfl (by rw [Tryz.results142]) Tryz.ntmps142 ?_
  simp -implicitDefEqProofs [eVI]
  refine allocK.intro (fun b1 hb1 => ?_)
  have n1 : ¬ b1 = b := by rintro rfl; simp at hb1
  have n2 : ¬ b = b1 := fun h => n1 h.symm
  simp -implicitDefEqProofs [n1, n2]
  refine CallK.with (ofVI_spec x) (by simp [eVI]) ?_
  simp -implicitDefEqProofs [eV]
  refine CallK.with (change_name x.view h) (by simp [eV]) ?_
  simp -implicitDefEqProofs
  refine CallK.eq (compare_int (nameV x.view) n) ?_
  simp -implicitDefEqProofs [n1, n2, keyVI]
def BsVII (l : List PVI) (n : Int) (g : FuncId) (b : Nat) (c : List AV) (t : Nat → AV) (h : Nat → Option (List AV)) : Prop := ∃ i j : Nat, t 0 = .sl .no (rowsVI l) ∧ t 1 = eI n ∧ t 2 = .fn g [.ptr b 0] ∧ t 8 = eI l.length ∧ t 9 = eI i ∧ t 10 = eI j ∧ i ≤ posK keyVI l n ∧ posK keyVI l n ≤ j ∧ j ≤ l.length ∧ h b = some c
def BsVIM (l : List PVI) (n : Int) (g : FuncId) (b : Nat) (c : List AV) (t : Nat → AV) (h : Nat → Option (List AV)) : Prop := t 0 = .sl .no (rowsVI l) ∧ t 1 = eI n ∧ t 2 = .fn g [.ptr b 0] ∧ t 8 = eI l.length ∧ t 9 = eI (posK keyVI l n) ∧ h b = some c
theorem bsearchVI_spec (g : FuncId) (b : Nat) (c : List AV) (l : List PVI) (n : Int) (hs : sortK keyVI l) (hl : l.length ≤ 1000000000) (hf : ∀ x ∈ l, MSpec Tryz.prog g [.agg (eVI x), eI n, .ptr b 0] (one b c) (fun r h' => r = eI (cmpI (keyVI x) n) ∧ h' = one b c)) :
    MSpec Tryz.prog 140 [.sl .no (rowsVI l), eI n, .fn g [.ptr b 0]] (one b c) (fun r h' => r = .tup [eI (posK keyVI l n), .v (.bool (hasK keyVI l n))] ∧ h' = one b c) := by
  have hp := posK_le (key := keyVI) l n
  refine MSpec.of_awp Tryz.func140 (by kernel_rfl) rfl (by rw [Tryz.results140]) Tryz.ntmps140 ?_
  simp -implicitDefEqProofs
  intro _
  refine loopK.post (BsVII l n g b c) (fun t => natOf (t 10) - natOf (t 9)) (BsVIM l n g b c) ?_ ?_ ?_
  · exact ⟨0, l.length, by simp, by simp, by simp, by simp, by simp, by simp, by omega, hp, by omega, by simp⟩
  · rintro t hh ⟨i, j, g0, g1, g2, g8, g9, g10, hi, hj, hjl, hb⟩
    have hm9 : natOf (t 9) = i := by rw [g9]; simp
    have hm10 : natOf (t 10) = j := by rw [g10]; simp
    by_cases hlt : i < j
    · have hlt' : (i : Int) < (j : Int) := by omega
      have w1 : IntKind.i64.wrap ((i : Int) + (j : Int)) = (i : Int) + (j : Int) := w64 (by omega) (by omega)
      have w2 : IntKind.u64.wrap ((i : Int) + (j : Int)) = (i : Int) + (j : Int) := by
        simp [IntKind.wrap, IntKind.bits, IntKind.signed]; omega
      obtain ⟨m, hm⟩ : ∃ m : Nat, m = (i + j) / 2 := ⟨_, rfl⟩
      have w3 : ((i : Int) + (j : Int)) / 2 = (m : Int) := by omega
      have w4 : IntKind.i64.wrap (m : Int) = (m : Int) := w64 (by omega) (by omega)
      have w4' : IntKind.u64.wrap (m : Int) = (m : Int) := by
        simp [IntKind.wrap, IntKind.bits, IntKind.signed]; omega
      have w5 : IntKind.i64.wrap ((m : Int) + 1) = ((m + 1 : Nat) : Int) := by rw [w64 (by omega) (by omega)]; omega
      have hml : m < l.length := by omega
      obtain ⟨x, hx⟩ : ∃ x, l[m]? = some x := ⟨l[m], by simp [hml]⟩
      have hpk := posK_lt hs (n := n) hx
      have s1 : Int.fdiv ((i : Int) + (j : Int)) (2 ^ min 1 IntKind.u64.bits) = (m : Int) := by
        have := shr_u64 (i + j) 1 (by omega)
        rw [hm]
        simpa using this
      have hml' : (m : Int) < (l.length : Int) := by omega
      simp -implicitDefEqProofs [g0, g1, g2, g9, g10, hlt', hlt, w1, w2, w3, w4, w4', hx, hml', eVI, aNum_shr, s1]
      refine CallK.one (hf x (List.mem_of_getElem? hx)) (by simp [eVI]) (by simp [hb, Weak.refl]) ?_
      have hcm : (cmpI (keyVI x) n < 0) ↔ keyVI x < n := by
        unfold cmpI
        by_cases h1 : keyVI x < n
        · simp [h1]
        · by_cases h2 : n < keyVI x <;> simp [h1, h2]
      by_cases hk : keyVI x < n
      · have hk1 := hcm.2 hk
        have hk2 := hpk.1 hk
        simp -implicitDefEqProofs [hk1, w5]
        exact ⟨⟨m + 1, j, by simp [g0], by simp [g1], by simp [g2], by simp [g8], by simp, by simp [g10], by omega, hj, hjl, by simp⟩, by first | omega | (simp [g9, g10]; omega)⟩
      · have hk1 : ¬ cmpI (keyVI x) n < 0 := fun h => hk (hcm.1 h)
        have hk2 : posK keyVI l n ≤ m := by
          rcases Nat.lt_or_ge m (posK keyVI l n) with h | h
          · exact absurd (hpk.2 h) hk
          · exact h
        simp -implicitDefEqProofs [hk1]
        exact ⟨⟨i, m, by simp [g0], by simp [g1], by simp [g2], by simp [g8], by simp [g9], by simp, hi, hk2, by omega, by simp⟩, by first | omega | (simp [g9, g10]; omega) | (simp [g9, g10, upd]; omega)⟩
    · have hlt' : ¬ (i : Int) < (j : Int) := by omega
      obtain rfl : i = posK keyVI l n := by omega
      simp -implicitDefEqProofs [g9, g10, hlt', hlt]
      exact ⟨by simp [g0], by simp [g1], by simp [g2], by simp [g8], by simp [g9], hb⟩
  rintro t hh ⟨g0, g1, g2, g8, g9, hb⟩
  have hcz : ∀ x : PVI, (cmpI (keyVI x) n = 0) ↔ keyVI x = n := fun x => by
    unfold cmpI
    by_cases h1 : keyVI x < n
    · have h3 : ¬ keyVI x = n := by omega
      simp [h1, h3]
    · by_cases h2 : n < keyVI x
      · have h3 : ¬ keyVI x = n := by omega
        simp [h1, h2, h3]
      · have h3 : keyVI x = n := by omega
        simp [h3]
  have hat := hasK_at hs n
  generalize posK keyVI l n = p at *
  by_cases hlt : p < l.length
  · have hlt' : (p : Int) < (l.length : Int) := by omega
    obtain ⟨x, hx⟩ : ∃ x, l[p]? = some x := ⟨l[p], by simp [hlt]⟩
    simp -implicitDefEqProofs [g0, g1, g2, g8, g9, hlt', hx, eVI]
    refine CallK.one (hf x (List.mem_of_getElem? hx)) (by simp [eVI]) (by simp [hb, Weak.refl]) ?_
    by_cases hk : keyVI x = n
    · have h1 := (hcz x).2 hk
      have h2 : hasK keyVI l n = true := by
        rcases hat with ⟨y, h3, h4, h5⟩ | ⟨h3, h4⟩
        · exact h5
        · exact absurd hk (h3 x hx)
      simp -implicitDefEqProofs [h1, h2, g9, hb, Weak.refl]
    · have h1 : ¬ cmpI (keyVI x) n = 0 := fun h => hk ((hcz x).1 h)
      have h2 : hasK keyVI l n = false := by
        rcases hat with ⟨y, h3, h4, h5⟩ | ⟨h3, h4⟩
        · rw [hx] at h3; cases h3; exact absurd h4 hk
        · exact h4
      simp -implicitDefEqProofs [h1, h2, g9, hb, Weak.refl]
  · have hlt' : ¬ (p : Int) < (l.length : Int) := by omega
    have h2 : hasK keyVI l n = false := by
      rcases hat with ⟨y, h3, h4, h5⟩ | ⟨h3, h4⟩
      · rw [List.getElem?_eq_none (by omega)] at h3; simp at h3
      · exact h4
    simp -implicitDefEqProofs [g0, g1, g2, g8, g9, hlt', h2, hb, Weak.refl]
theorem placeVI_spec (l : List PVI) (v : PView) (hs : sortK keyVI l) (hl : l.length ≤ 1000000000) (hr : ∀ x ∈ l, rightV x.view = true) (hv : rightV v = true) :
    ASpec Tryz.prog 81 [.agg [.fn 80 []], .sl .no (rowsVI l), .agg (eV v)] (· = .tup [eI (posK keyVI l (nameV v)), .v (.bool (hasK keyVI l (nameV v)))]) := by
  refine ASpec.of_awp Tryz.func81 (by kernel_rfl) rfl (by rw [Tryz.results81]) Tryz.ntmps81 ?_
  simp -implicitDefEqProofs [eV]
  refine allocK.intro (fun b1 hb1 => ?_)
  simp -implicitDefEqProofs
  refine allocK.intro (fun b2 hb2 => ?_)
  have n12 : ¬ b1 = b2 := by rintro rfl; simp at hb2
  have n21 : ¬ b2 = b1 := fun h => n12 h.symm
  simp -implicitDefEqProofs [n12, n21]
  refine CallK.with (change_name v hv) (by simp [eV]) ?_
  simp -implicitDefEqProofs [n12, n21]
  refine CallK.one (bsearchVI_spec 142 b1 [.fn 80 []] l (nameV v) hs hl (fun x hx => placeKeyVI_spec x b1 (nameV v) (hr x hx))) rfl (by simp [n12, Weak.refl]) ?_
  simp -implicitDefEqProofs
end Go.Proofs.YtjbbfiagijjdoaaGreat

/- Contracts: something is put in its place (api.ViewIntent). Printed by sort/gen.py. No condition. -/
set_option linter.unusedSimpArgs false
set_option linter.unusedVariables false
set_option maxRecDepth 10000
namespace Go.Proofs.YtjbbfiagijjdoaaGreat
open Go Go.Rw Go.Proofs
-- a goal is never to be run by the elaborator
attribute [local irreducible] awp aops aop aopsE aeff

theorem deadVI (l : List PVI) : (rowsVI l).flatten.map dead1 = (rowsVI l).flatten := by
  induction l with
  | nil => rfl
  | cons x l ih => simp [rowsVI, eVI, dead1] at *; try exact ih
theorem dead2VI (l : List PVI) : (rowsVI l).map (List.map dead1) = rowsVI l := by
  induction l with
  | nil => rfl
  | cons x l ih => simp [rowsVI, eVI, dead1] at *; try exact ih
theorem flenVI (l : List PVI) : (rowsVI l).flatten.length = l.length * 4 := by
  rw [flat_len (rowsVI_one l)]; simp
theorem chunksVI (l : List PVI) (sp : List AV) : chunks ((rowsVI l).flatten ++ sp) (rowsVI l) 4 := by
  refine ⟨rowsVI_one l, ?_, ?_, ?_⟩
  · rw [show (rowsVI l).length * 4 = (rowsVI l).flatten.length by rw [flenVI]; simp, List.take_left, deadVI]
  · rw [List.length_append, flenVI]; simp
  · intro r hr x hx
    obtain ⟨c, _, rfl⟩ := List.mem_map.1 hr
    simp [eVI] at hx
    rcases hx with rfl | rfl | rfl | rfl <;> rfl
def ClVIR (l : List PVI) (r : AV) : Prop := (∃ tag, (tag = .nil ∨ tag = .full) ∧ r = .sl tag [] ∧ l = []) ∨ (rowsVI l ≠ [] ∧ r = .sl (.live 93 4 true) (rowsVI l))
theorem cloneVI_own (l : List PVI) (hl : l.length * 32 ≤ 140737488355328) : ASpec Tryz.prog 128 [.sl .no (rowsVI l)] (ClVIR l) := by
  refine ASpec.of_awp Tryz.func128 (by kernel_rfl) rfl (by rw [Tryz.results128]) Tryz.ntmps128 ?_
  simp -implicitDefEqProofs
  refine nilK.intro (fun h => ?_) ?_
  · have h' : l = [] := by simpa [rowsVI] using h
    simp -implicitDefEqProofs [h]; exact .inl ⟨_, .inl rfl, rfl, h'⟩
  · simp -implicitDefEqProofs [hl]
    by_cases h : l = []
    · subst h; exact .inl ⟨_, .inr rfl, rfl, rfl⟩
    · have h' : rowsVI l ≠ [] := by simpa [rowsVI] using h
      exact .inr ⟨h', by rw [appTag_full h']⟩
theorem insertVI_mn (x : PVI) : MSpec Tryz.prog 159 [.mn, eI 0, .sl .no [eVI x]] (fun _ => none) (fun r h' => ∃ b c sp, r = .sm b 0 1 c ∧ h' = one b (eVI x ++ sp) ∧ 4 + sp.length = c * 4) := by
  refine MSpec.of_awp Tryz.func159 (by kernel_rfl) rfl (by rw [Tryz.results159]) Tryz.ntmps159 ?_
  simp -implicitDefEqProofs [eVI]
  refine growMnK.intro (fun h => by simp at h) fun _ b c sp hb hc hsp => ?_
  simp -implicitDefEqProofs
  simp at hsp
  exact ⟨_, SubH_one.2 (by simp; exact Weak.refl _), b, c, ⟨rfl, rfl⟩, sp, rfl, by omega⟩
theorem lay_atVI (P T X : List AV) : overlay (P ++ T) P.length X = P ++ X ++ T.drop X.length := by
  unfold overlay
  rw [List.take_left, List.drop_append, List.drop_of_length_le (by omega), List.nil_append, Nat.add_sub_cancel_left]
theorem lay_twiceVI (P T X Y : List AV) : overlay (overlay (P ++ T) P.length X) (P.length + X.length) Y = P ++ X ++ Y ++ T.drop (X.length + Y.length) := by
  rw [lay_atVI, ← List.length_append, lay_atVI, List.drop_drop]
theorem lay_backVI (P T R Q : List AV) (h : R.length ≤ T.length) : overlay (overlay (P ++ T) (P.length + R.length) Q) P.length R = P ++ R ++ Q ++ T.drop (R.length + Q.length) := by
  have e : overlay (P ++ T) (P.length + R.length) Q = P ++ (T.take R.length ++ (Q ++ T.drop (R.length + Q.length))) := by
    unfold overlay
    rw [List.take_append, List.take_of_length_le (by omega), Nat.add_sub_cancel_left, List.drop_append, List.drop_of_length_le (by omega), List.nil_append, show P.length + R.length + Q.length - P.length = R.length + Q.length by omega]
    simp only [List.append_assoc]
  rw [e, lay_atVI, List.drop_append, List.drop_of_length_le (by rw [List.length_take]; omega), List.nil_append, List.length_take, Nat.min_eq_left h, Nat.sub_self, List.drop_zero]
  simp only [List.append_assoc]
/-- behind an insertion -/
def insVI (l : List PVI) (i : Nat) (x : PVI) : List PVI := l.take i ++ x :: l.drop i
theorem insertVI_sm (l : List PVI) (i b cap : Nat) (sp : List AV) (x : PVI) (h0 : 0 < l.length) (hi : i ≤ l.length) (hl : l.length ≤ 1000000000) (hsp : l.length * 4 + sp.length = cap * 4) :
    MSpec Tryz.prog 159 [.sm b 0 l.length cap, eI i, .sl .no [eVI x]] (one b ((rowsVI l).flatten ++ sp)) (fun r h' => ∃ b' c' sp', r = .sm b' 0 (l.length + 1) c' ∧ h' = one b' ((rowsVI (insVI l i x)).flatten ++ sp') ∧ (l.length + 1) * 4 + sp'.length = c' * 4) := by
  refine MSpec.of_awp Tryz.func159 (by kernel_rfl) rfl (by rw [Tryz.results159]) Tryz.ntmps159 ?_
  have hlen := flenVI l
  have hcl : ((rowsVI l).flatten ++ sp).length = cap * 4 := by rw [List.length_append, hlen]; exact hsp
  have w1 : IntKind.i64.wrap ((l.length : Int) + 1) = ((l.length + 1 : Nat) : Int) := by rw [w64 (by omega) (by omega)]; omega
  generalize hA : (rowsVI l).flatten ++ sp = A at *
  have hne : ¬ l = [] := by rintro rfl; simp at h0
  by_cases hil : i = l.length
  · subst hil
    simp -implicitDefEqProofs [eVI, hne, hcl]
    intro _
    refine ⟨by omega, growSmK.intro fun b' c' spare hb' hc' hsp' => ?_⟩
    have htk : (A.take (l.length * 4)).map dead1 = (rowsVI l).flatten := by rw [← hA, ← hlen, List.take_left, deadVI]
    have hfin : (A.take (l.length * 4)).map dead1 ++ [eVI x].flatten.map dead1 ++ spare = (rowsVI (insVI l l.length x)).flatten ++ spare := by
      rw [htk]; simp [insVI, rowsVI, eVI, dead1]
    simp only [eVI] at hfin
    rw [hfin]
    simp -implicitDefEqProofs
    simp at hsp'
    exact ⟨_, SubH_one.2 (by simp; exact Weak.refl _), b', c', ⟨rfl, rfl⟩, spare, rfl, by omega⟩
  · have hlt : i < l.length := by omega
    have hil' : ¬ (i : Int) = (l.length : Int) := by omega
    have hlt' : (i : Int) < (l.length : Int) := by omega
    have hle : i ≤ l.length := hi
    have hti : (l.take i).length = i := by rw [List.length_take]; omega
    have hP : (rowsVI (l.take i)).flatten.length = i * 4 := by rw [flenVI, hti]
    have hQl : (rowsVI (l.drop i)).flatten.length = (l.length - i) * 4 := by rw [flenVI, List.length_drop]
    have hsplit : (rowsVI l).flatten = (rowsVI (l.take i)).flatten ++ (rowsVI (l.drop i)).flatten := by
      rw [← List.flatten_append, rowsVI_append, List.take_append_drop]
    have hins : (rowsVI (insVI l i x)).flatten = (rowsVI (l.take i)).flatten ++ eVI x ++ (rowsVI (l.drop i)).flatten := by
      simp [insVI, rowsVI]
    have hA2 : A = (rowsVI (l.take i)).flatten ++ ((rowsVI (l.drop i)).flatten ++ sp) := by rw [← hA, hsplit, List.append_assoc]
    have hPd := deadVI (l.take i)
    have hQd := deadVI (l.drop i)
    have hQc : ∀ x ∈ (rowsVI (l.drop i)).flatten, cellAV x = true := by
      intro y hy
      obtain ⟨r, hr, hy⟩ := List.mem_flatten.1 hy
      obtain ⟨c, _, rfl⟩ := List.mem_map.1 hr
      simp [eVI] at hy
      rcases hy with rfl | rfl | rfl | rfl <;> rfl
    generalize (rowsVI (insVI l i x)).flatten = W at *
    generalize (rowsVI (l.take i)).flatten = P1 at *
    generalize (rowsVI (l.drop i)).flatten = Q at *
    have hx3 : (eVI x).length = 4 := rfl
    have hq1 : (A.drop (i * 4)).take ((l.length - i) * 4) = Q := by rw [hA2, ← hP, List.drop_left, ← hQl, List.take_left]
    have hq2 : ((A.map dead1).drop (i * 4)).take ((l.length - i) * 4) = Q := by rw [← List.map_drop, ← List.map_take, hq1, hQd]
    have ht1 : ∀ r : List AV, [r].take (l.length + 1 - i) = [r] := fun r => List.take_of_length_le (by simp; omega)
    have ht2 : [4].take (l.length + 1 - i) = [4] := List.take_of_length_le (by simp; omega)
    have w3 : IntKind.i64.wrap ((i : Int) + 1) = ((i + 1 : Nat) : Int) := by rw [w64 (by omega) (by omega)]; omega
    have l1 : i < l.length + 1 := by omega
    have l1' : (i : Int) < (l.length : Int) + 1 := by omega
    have l2 : i + 1 < l.length + 1 := by omega
    have l2' : (i : Int) + 1 < (l.length : Int) + 1 := by omega
    have l2'' : (i : Int) + 1 ≤ (l.length : Int) := by omega
    have l3 : (0 : Int) ≤ (i : Int) + 1 := by omega
    by_cases hroom : l.length + 1 ≤ cap
    · have hr' : ¬ (cap : Int) < (l.length : Int) + 1 := by omega
      have hr2 : (l.length : Int) + 1 ≤ (cap : Int) := by omega
      have hr3 : (l.length : Int) + 1 ≤ 281474976710656 := by omega
      have hr4 : (0 : Int) < (l.length : Int) + 1 := by omega
      simp -implicitDefEqProofs [eVI, hne, hcl, hil, hil', hlt, hlt', hle, w1]
      intro _
      refine capSm (e := (93, 4, 32)) (b := b) (o := 0) (n := l.length) (c := cap) (by simp) (by simp) ?_
      simp -implicitDefEqProofs [eVI, hne, hcl, hil, hil', hlt, hlt', hle, w1, hr', hr2, hr3, hr4]
      simp -implicitDefEqProofs [l1, l1', l2, l2', l2'', l3, w3]
      refine CallK.mh (h := one b A) (MSpec.overlaps (tS := 33) (tR := 4) (e := 93) (sz := 4) (by_ := 32) (tag := .no) (rows := [eVI x]) (b := b) (off := (i + 1) * 4) (n := l.length - i) (c := cap - (i + 1)) (cells := A) Tryz.func197 (by kernel_rfl) (by kernel_rfl) (by kernel_rfl) (by kernel_rfl) (by simp) (by omega) (by simp) (by simp [eVI]) (one_self _ _)) (by simp [eVI]) (SubH_one.2 (by simp [Weak.refl])) ?_
      rintro _ h' H ⟨rfl, rfl⟩ - hH -
      have k1 := hH b _ (one_self _ _)
      clear hH
      have hroom2 : Q.length + sp.length = cap * 4 - i * 4 := by
        rw [hA2, List.length_append, List.length_append, hP] at hcl; omega
      have hov := lay_backVI P1 (Q ++ sp) (eVI x) Q (by rw [List.length_append, hroom2, hx3]; omega)
      rw [hP, hx3, ← hA2, show i * 4 + 4 = (i + 1) * 4 by omega] at hov
      obtain ⟨C1, hC1⟩ : ∃ C, overlay A ((i + 1) * 4) Q = C := ⟨_, rfl⟩
      have hC1l : C1.length = cap * 4 := by
        rw [← hC1]; unfold overlay
        rw [List.length_append, List.length_append, List.length_take, List.length_drop, hcl, hQl]; omega
      rw [hC1] at hov
      obtain ⟨C2, hC2⟩ : ∃ C, overlay C1 (i * 4) (eVI x) = C := ⟨_, rfl⟩
      rw [hC2] at hov
      have hC2' := hC2
      have hmin : min (l.length + 1 - i) (l.length - i) = l.length - i := by omega
      simp [overlay, eVI] at hC1 hC2
      simp -implicitDefEqProofs
      refine regionK.modes [b] [.q, .q, .q, .q, .r, .q, .q, .r, .l] follows_mixed (by kernel_rfl) ?_
      simp -implicitDefEqProofs [l1, l1', l2, l2', l2'', l3, hlt, hlt', hr4, hcl, w3, maskH, k1, hq1, hq2, hQd, hmin, hC1]
      refine ⟨⟨by omega, by omega, fun y hy => hQc y hy⟩, ?_⟩
      simp -implicitDefEqProofs [l1, l1', ht1, ht2, hC1l, hC2]
      have hov2 : C2 = W ++ (Q ++ sp).drop (4 + Q.length) := by rw [hov, hins]
      have hC2l : C2.length = cap * 4 := by
        rw [← hC2']; unfold overlay
        rw [List.length_append, List.length_append, List.length_take, List.length_drop, hC1l, hx3]; omega
      have hWl : W.length = (l.length + 1) * 4 := by
        rw [hins, List.length_append, List.length_append, hP, hx3, hQl]; omega
      refine ⟨by omega, one b C2, SubH_one.2 (by simp [Weak.refl]), b, cap, ⟨rfl, rfl⟩, _, by rw [hov2], ?_⟩
      have := congrArg List.length hov2
      rw [List.length_append, hC2l, hWl] at this
      omega
    · have hr' : (cap : Int) < (l.length : Int) + 1 := by omega
      simp -implicitDefEqProofs [eVI, hne, hcl, hil, hil', hlt, hlt', hle, w1]
      intro _
      refine capSm (e := (93, 4, 32)) (b := b) (o := 0) (n := l.length) (c := cap) (by simp) (by simp) ?_
      simp -implicitDefEqProofs [eVI, hne, hcl, hil, hil', hlt, hlt', hle, w1, hr']
      have w2 : IntKind.i64.wrap ((l.length : Int) + 1 - (i : Int)) = ((l.length + 1 - i : Nat) : Int) := by rw [w64 (by omega) (by omega)]; omega
      have hsl : (if 0 < i then some (AV.sm b 0 i cap) else if 0 = (i : Int) then some (AV.sm b 0 0 cap) else none) = some (.sm b 0 i cap) := by
        by_cases h : 0 < i
        · rw [if_pos h]
        · have h2 : i = 0 := by omega
          subst h2; simp
      have hik : i + (l.length + 1 - i) = l.length + 1 := by omega
      simp -implicitDefEqProofs [hsl, w2]
      refine zerosSm (e := 93) (sz := 4) (by_ := 32) (ku := .i64) (z := [eI 0, eI 0, eI 0, eI 0]) (l.length + 1 - i) b i cap A (by decide) (by simp) (by simp) (by simp) rfl (by omega) (by omega) (by simp) (by simp [w1, w2]) (by simp) hcl (by omega) (by omega) (by omega) fun b' c' spare hb' hc' hsp' => ?_
      have nb : ¬ b' = b := by rintro rfl; simp at hb'
      have nb' : ¬ b = b' := fun h => nb h.symm
      have hB : ((A.take (i * 4)).map dead1 ++ spare).length = c' * 4 := by
        rw [List.length_append, List.length_map, List.length_take]; omega
      rw [hik] at hc' ⊢
      have hB2 : (A.take (i * 4)).map dead1 ++ spare = P1 ++ spare := by rw [hA2, ← hP, List.take_left, hPd]
      rw [hB2] at hB ⊢
      have hov := lay_twiceVI P1 spare (eVI x) Q
      rw [hP, hx3] at hov
      have hsl2 : spare.length = c' * 4 - i * 4 := by rw [List.length_append, hP] at hB; omega
      obtain ⟨C1, hC1⟩ : ∃ C, overlay (P1 ++ spare) (i * 4) (eVI x) = C := ⟨_, rfl⟩
      have hC1l : C1.length = c' * 4 := by
        rw [← hC1]; unfold overlay
        rw [List.length_append, List.length_append, List.length_take, List.length_drop, hB, hx3]; omega
      rw [hC1] at hov
      rw [show i * 4 + 4 = (i + 1) * 4 by omega] at hov
      generalize P1 ++ spare = B at *
      obtain ⟨C2, hC2⟩ : ∃ C, overlay C1 ((i + 1) * 4) Q = C := ⟨_, rfl⟩
      rw [hC2] at hov
      have hC2' := hC2
      simp [overlay, eVI] at hC1 hC2
      simp -implicitDefEqProofs [nb, nb', l1, l1', hB, ht1, ht2, hC1]
      refine ⟨by omega, ?_⟩
      refine regionK.modes [b', b] [.q, .q, .q, .q, .r, .q, .q, .r, .l] follows_mixed (by kernel_rfl) ?_
      simp -implicitDefEqProofs [nb, nb', l1, l1', l2, l2', l2'', l3, hlt, hlt', hB, hcl, w3, maskH, hC1l, hq1, hq2, hQd, hC2]
      have hov2 : C2 = W ++ spare.drop ((eVI x).length + Q.length) := by rw [hov, hins, hx3]
      have hC2l : C2.length = c' * 4 := by
        rw [← hC2']; unfold overlay
        rw [List.length_append, List.length_append, List.length_take, List.length_drop, hC1l, hQl]; omega
      have hWl : W.length = (l.length + 1) * 4 := by
        rw [hins, List.length_append, List.length_append, hP, hx3, hQl]; omega
      refine ⟨⟨by omega, by omega, fun y hy => hQc y hy⟩, one b' C2, SubH_one.2 (by simp [Weak.refl]), b', c', ⟨rfl, rfl⟩, _, by rw [hov2], ?_⟩
      have := congrArg List.length hov2
      rw [List.length_append, hC2l, hWl] at this
      omega
end Go.Proofs.YtjbbfiagijjdoaaGreat

/- Contracts: a list with something put in its place (api.ViewIntent). Printed by sort/gen.py. No condition. -/
set_option linter.unusedSimpArgs false
set_option linter.unusedVariables false
set_option maxRecDepth 10000
namespace Go.Proofs.YtjbbfiagijjdoaaGreat
open Go Go.Rw Go.Proofs
-- a goal is never to be run by the elaborator
attribute [local irreducible] awp aops aop aopsE aeff

theorem putKVI_new {l : List PVI} {x : PVI} (hs : sortK keyVI l) (hh : hasK keyVI l (keyVI x) = false) : putK keyVI l x = insVI l (posK keyVI l (keyVI x)) x := by
  obtain ⟨h1, h2⟩ := take_posK hs (keyVI x)
  unfold putK insVI
  rw [h1, h2]
  congr 2
  refine List.filter_congr fun y hy => ?_
  have : ¬ keyVI y = keyVI x := fun h => by
    have h3 : hasK keyVI l (keyVI x) = true := by rw [hasK, List.any_eq_true]; exact ⟨y, hy, by simpa using h⟩
    rw [hh] at h3; simp at h3
  by_cases h : keyVI x < keyVI y
  · have : ¬ keyVI y < keyVI x := by omega
    simp [h, this]
  · have : keyVI y < keyVI x := by omega
    simp [h, this]
theorem putKVI_old {l : List PVI} {x : PVI} (hs : sortK keyVI l) (hh : hasK keyVI l (keyVI x) = true) : putK keyVI l x = l.set (posK keyVI l (keyVI x)) x ∧ posK keyVI l (keyVI x) < l.length := by
  obtain ⟨h1, h2⟩ := take_posK hs (keyVI x)
  rcases hasK_at hs (keyVI x) with ⟨y, hy, hk, _⟩ | ⟨_, h3⟩
  · have hlt : posK keyVI l (keyVI x) < l.length := by
      rcases Nat.lt_or_ge (posK keyVI l (keyVI x)) l.length with h | h
      · exact h
      · rw [List.getElem?_eq_none h] at hy; simp at hy
    refine ⟨?_, hlt⟩
    rw [List.set_eq_take_append_cons_drop, if_pos hlt, h1]
    unfold putK
    congr 2
    have hd : l.drop (posK keyVI l (keyVI x)) = y :: l.drop (posK keyVI l (keyVI x) + 1) := by
      rw [List.drop_eq_getElem_cons hlt]; rw [List.getElem?_eq_getElem hlt] at hy; rw [Option.some.inj hy]
    have hsd : (l.drop (posK keyVI l (keyVI x))).Pairwise fun a b => keyVI a < keyVI b := List.Pairwise.sublist (List.drop_sublist _ _) hs
    rw [hd, List.pairwise_cons] at hsd
    have e1 : l.filter (fun z => decide (keyVI x < keyVI z)) = (l.filter (fun z => decide (¬ keyVI z < keyVI x))).filter (fun z => decide (keyVI x < keyVI z)) := by
      rw [List.filter_filter]
      refine List.filter_congr fun z _ => ?_
      by_cases h : keyVI x < keyVI z
      · have : ¬ keyVI z < keyVI x := by omega
        simp [h, this]
      · simp [h]
    rw [e1, ← h2, hd, List.filter_cons_of_neg (by simp [hk])]
    refine List.filter_eq_self.2 fun z hz => ?_
    have := hsd.1 z hz
    simp; omega
  · rw [hh] at h3; simp at h3
theorem putVI_spec (l : List PVI) (x : PVI) (hs : sortK keyVI l) (hl : l.length ≤ 1000000) (hr : ∀ y ∈ l, rightV y.view = true) (hx : rightV x.view = true) :
    ASpec Tryz.prog 103 [.agg [.fn 80 []], .sl .no (rowsVI l), .agg (eVI x)] (fun r => ∃ tag, r = .sl tag (rowsVI (putK keyVI l x))) := by
  refine ASpec.of_awpS Tryz.func103 (by kernel_rfl) rfl (by rw [Tryz.results103]) Tryz.ntmps103 ?_
  simp -implicitDefEqProofs [eVI]
  refine allocK.intro (fun b1 hb1 => ?_)
  simp -implicitDefEqProofs
  refine allocK.intro (fun b2 hb2 => ?_)
  have n12 : ¬ b1 = b2 := by rintro rfl; simp at hb2
  have n21 : ¬ b2 = b1 := fun h => n12 h.symm
  simp -implicitDefEqProofs [n12, n21]
  refine regionK.intro 12 follows_mixed (by kernel_rfl) ?_
  simp -implicitDefEqProofs [n12, n21]
  refine CallQ.with (ofVI_spec x) (by simp [eVI]) ?_
  simp -implicitDefEqProofs [n12, n21]
  refine CallQ.with (placeVI_spec l x.view hs (by omega) hr hx) (by simp [eV]) ?_
  have hpl := posK_le (key := keyVI) l (nameV x.view)
  simp -implicitDefEqProofs [n12, n21]
  have ek : nameV x.view = keyVI x := rfl
  rw [ek] at *
  have hcl := cloneVI_own l (by omega)
  refine CallK.own hcl (by simp) ?_
  rintro r (⟨tag, htag, rfl, hl0⟩ | ⟨hne, rfl⟩)
  · left
    refine ⟨tag, htag, rfl, ?_⟩
    subst hl0
    simp -implicitDefEqProofs [hasK, posK, n12, n21]
    refine CallK.fresh (insertVI_mn x) (by simp [eVI]) ?_
    rintro _ h' H ⟨b, c, sp, rfl, rfl, hsp⟩ - hH -
    have k1 := hH b _ (one_self _ _)
    clear hH
    simp -implicitDefEqProofs
    refine shiftK.freeze (b := b) (len := 1) (cap := c) 6 93 (rowsVI [x]) (by simp) (cells := eVI x ++ sp) k1 (by simpa [rowsVI] using chunksVI [x] sp) (by simp) ?_ ?_
    · rw [List.length_append, show (eVI x).length = 4 from rfl]; exact hsp
    have hp : putK keyVI [] x = [x] := rfl
    simp -implicitDefEqProofs [hp]
  · right
    refine ⟨_, _, _, _, rfl, hne, .inl rfl, fun b cap spare hb hcap hsp => ?_⟩
    have n1 : ¬ b = b1 := by rintro rfl; simp [n12] at hb
    have n1' : ¬ b1 = b := fun h => n1 h.symm
    have n2 : ¬ b = b2 := by rintro rfl; simp at hb
    have n2' : ¬ b2 = b := fun h => n2 h.symm
    have ed := dead2VI l
    have hl0 : 0 < l.length := by
      cases l with
      | nil => exact absurd rfl hne
      | cons => simp
    have hsp2 : l.length * 4 + (spare.map AV.v).length = cap * 4 := by simp at hsp ⊢; omega
    have hcl2 : ((rowsVI l).flatten ++ spare.map AV.v).length = cap * 4 := by rw [List.length_append, flenVI]; exact hsp2
    cases hh : hasK keyVI l (keyVI x)
    · simp -implicitDefEqProofs [n12, n21, n1, n1', n2, n2', ed, hh]
      refine CallK.mh (insertVI_sm l (posK keyVI l (keyVI x)) b cap (spare.map AV.v) x hl0 hpl (by omega) hsp2) (by simp [eVI]) (SubH_one.2 (by simp [Weak.refl])) ?_
      rintro _ h' H ⟨b', c', sp', rfl, rfl, hlen⟩ - hH -
      have k1 := hH b' _ (one_self _ _)
      clear hH
      have hil : (insVI l (posK keyVI l (keyVI x)) x).length = l.length + 1 := by
        unfold insVI
        rw [List.length_append, List.length_take, List.length_cons, List.length_drop]; omega
      rw [putKVI_new hs hh]
      generalize insVI l (posK keyVI l (keyVI x)) x = L at *
      simp -implicitDefEqProofs
      refine shiftK.freeze (b := b') (len := l.length + 1) (cap := c') 6 93 (rowsVI L) (by simp) k1 (chunksVI L sp') (by simp [hil]) ?_ ?_
      · rw [List.length_append, flenVI, hil]; exact hlen
      simp -implicitDefEqProofs
    · obtain ⟨hpe, hlt⟩ := putKVI_old hs hh
      rw [hpe]
      have hset : overlay ((rowsVI l).flatten ++ spare.map AV.v) (posK keyVI l (keyVI x) * 4) (eVI x) = (rowsVI (l.set (posK keyVI l (keyVI x)) x)).flatten ++ spare.map AV.v := by
        rw [flat_set (rowsVI_one l) rfl (by simpa using hlt)]
        simp [rowsVI, List.map_set]
      have hfit : posK keyVI l (keyVI x) * 4 + 4 ≤ ((rowsVI l).flatten ++ spare.map AV.v).length := flat_fits (rowsVI_one l) (by simpa using hlt)
      generalize posK keyVI l (keyVI x) = p at *
      have hlt' : (p : Int) < (l.length : Int) := by omega
      obtain ⟨L, hL⟩ : ∃ L, l.set p x = L := ⟨_, rfl⟩
      have hLl : L.length = l.length := by rw [← hL, List.length_set]
      rw [hL] at hset ⊢
      have hcol : ((rowsVI L).flatten ++ spare.map AV.v).length = cap * 4 := by rw [List.length_append, flenVI, hLl]; exact hsp2
      have hck := chunksVI L (spare.map AV.v)
      generalize (rowsVI L).flatten ++ spare.map AV.v = C2 at *
      simp -implicitDefEqProofs [n12, n21, n1, n1', n2, n2', ed, hh]
      generalize (rowsVI l).flatten ++ spare.map AV.v = C1 at *
      simp [overlay, eVI] at hset
      simp -implicitDefEqProofs [n12, n21, n1, n1', n2, n2', hlt, hlt', hfit, hset]
      refine shiftK.freeze (b := b) (len := l.length) (cap := cap) 6 93 (rowsVI L) (by simp) (by simp) hck (by simp [hLl]) hcol ?_
      simp -implicitDefEqProofs
end Go.Proofs.YtjbbfiagijjdoaaGreat

/- Contracts: what a state tells. No condition. -/
set_option linter.unusedSimpArgs false
set_option linter.unusedVariables false
set_option maxRecDepth 10000
namespace Go.Proofs.YtjbbfiagijjdoaaGreat
open Go Go.Rw Go.Proofs
-- a goal is never to be run by the elaborator
attribute [local irreducible] awp aops aop aopsE aeff

/-- a state that can be -/
structure OkS (s : PState) : Prop where
  sb : sortK keyVB s.books
  sc : sortK keyVC s.cells
  si : sortK keyVI s.intents
  rb : ∀ x ∈ s.books, rightV x.view = true
  rc : ∀ x ∈ s.cells, rightV x.view = true
  ri : ∀ x ∈ s.intents, rightV x.view = true
  rh : rightV s.held = true
  lb : s.books.length ≤ 100000
  lc : s.cells.length ≤ 100000
  li : s.intents.length ≤ 100000
  bl : ∀ x ∈ s.books, x.book.length ≤ 100000
  cl : ∀ x ∈ s.cells, x.cells.length ≤ 100000
def bookS (s : PState) (v : PView) : List PEntry := match s.books[posK keyVB s.books (nameV v)]? with | some x => if hasK keyVB s.books (nameV v) = true then x.book else [] | none => []
def cellsS (s : PState) (v : PView) : List PCell := match s.cells[posK keyVC s.cells (nameV v)]? with | some x => if hasK keyVC s.cells (nameV v) = true then x.cells else [] | none => []
theorem new_spec (v : PView) : ASpec Tryz.prog 62 [.agg (eV v)] (· = .agg (eSt ⟨[], [], [], v, 0, 0⟩)) := by
  refine ASpec.of_awp Tryz.func62 (by kernel_rfl) rfl (by rw [Tryz.results62]) Tryz.ntmps62 ?_
  simp -implicitDefEqProofs [eV]
  refine allocK.intro (fun b1 hb1 => ?_)
  simp -implicitDefEqProofs
  refine allocK.intro (fun b2 hb2 => ?_)
  have n12 : ¬ b1 = b2 := by rintro rfl; simp at hb2
  have n21 : ¬ b2 = b1 := fun h => n12 h.symm
  simp -implicitDefEqProofs [n12, n21, eSt]
theorem book_spec (s : PState) (v : PView) (hs : OkS s) (hv : rightV v = true) : ASpec Tryz.prog 37 [.agg (eSt s), .agg (eV v)] (fun r => ∃ tag, r = .sl tag (eEs (bookS s v))) := by
  refine ASpec.of_awp Tryz.func37 (by kernel_rfl) rfl (by rw [Tryz.results37]) Tryz.ntmps37 ?_
  simp -implicitDefEqProofs [eV, eSt]
  refine allocK.intro (fun b1 hb1 => ?_)
  simp -implicitDefEqProofs
  refine allocK.intro (fun b2 hb2 => ?_)
  have n12 : ¬ b1 = b2 := by rintro rfl; simp at hb2
  have n21 : ¬ b2 = b1 := fun h => n12 h.symm
  simp -implicitDefEqProofs [n12, n21]
  refine regionK.intro 10 follows_mixed (by kernel_rfl) ?_
  simp -implicitDefEqProofs [n12, n21]
  refine CallQ.with shelvedVB_spec rfl ?_
  simp -implicitDefEqProofs [n12, n21]
  refine CallQ.with (placeVB_spec s.books v hs.sb (by have := hs.lb; omega) hs.rb hv) (by simp [eV, rowsVB]) ?_
  have hat := hasK_at hs.sb (nameV v)
  unfold bookS
  rcases hat with ⟨x, hx, hk, hh⟩ | ⟨_, hh⟩
  · rw [hx, hh]
    have hlt : posK keyVB s.books (nameV v) < s.books.length := by
      rcases Nat.lt_or_ge (posK keyVB s.books (nameV v)) s.books.length with h | h
      · exact h
      · rw [List.getElem?_eq_none h] at hx; simp at hx
    have hbl := hs.bl x (List.mem_of_getElem? hx)
    generalize posK keyVB s.books (nameV v) = p at *
    have hlt' : (p : Int) < (s.books.length : Int) := by omega
    simp -implicitDefEqProofs [n12, n21, hx, hlt', eVB]
    refine CallK.via (clone_entries x.book (by omega)) rfl ?_
    rintro _ ⟨tag, _, rfl⟩
    simp -implicitDefEqProofs
  · rw [hh]
    have e : ∀ o : Option PVB, (match o with | some x => if false = true then x.book else [] | none => []) = ([] : List PEntry) := fun o => by cases o <;> simp
    rw [e]
    simp -implicitDefEqProofs [n12, n21]
theorem cells_spec (s : PState) (v : PView) (hs : OkS s) (hv : rightV v = true) : ASpec Tryz.prog 40 [.agg (eSt s), .agg (eV v)] (fun r => ∃ tag, r = .sl tag (eCs (cellsS s v))) := by
  refine ASpec.of_awp Tryz.func40 (by kernel_rfl) rfl (by rw [Tryz.results40]) Tryz.ntmps40 ?_
  simp -implicitDefEqProofs [eV, eSt]
  refine allocK.intro (fun b1 hb1 => ?_)
  simp -implicitDefEqProofs
  refine allocK.intro (fun b2 hb2 => ?_)
  have n12 : ¬ b1 = b2 := by rintro rfl; simp at hb2
  have n21 : ¬ b2 = b1 := fun h => n12 h.symm
  simp -implicitDefEqProofs [n12, n21]
  refine regionK.intro 10 follows_mixed (by kernel_rfl) ?_
  simp -implicitDefEqProofs [n12, n21]
  refine CallQ.with shelvedVC_spec rfl ?_
  simp -implicitDefEqProofs [n12, n21]
  refine CallQ.with (placeVC_spec s.cells v hs.sc (by have := hs.lc; omega) hs.rc hv) (by simp [eV, rowsVC]) ?_
  have hat := hasK_at hs.sc (nameV v)
  unfold cellsS
  rcases hat with ⟨x, hx, hk, hh⟩ | ⟨_, hh⟩
  · rw [hx, hh]
    have hlt : posK keyVC s.cells (nameV v) < s.cells.length := by
      rcases Nat.lt_or_ge (posK keyVC s.cells (nameV v)) s.cells.length with h | h
      · exact h
      · rw [List.getElem?_eq_none h] at hx; simp at hx
    have hbl := hs.cl x (List.mem_of_getElem? hx)
    generalize posK keyVC s.cells (nameV v) = p at *
    have hlt' : (p : Int) < (s.cells.length : Int) := by omega
    simp -implicitDefEqProofs [n12, n21, hx, hlt', eVC]
    refine CallK.via (clone_cells x.cells (by omega)) rfl ?_
    rintro _ ⟨tag, _, rfl⟩
    simp -implicitDefEqProofs
  · rw [hh]
    have e : ∀ o : Option PVC, (match o with | some x => if false = true then x.cells else [] | none => []) = ([] : List PCell) := fun o => by cases o <;> simp
    rw [e]
    simp -implicitDefEqProofs [n12, n21]
def intentS (s : PState) (v : PView) : Option PView := match s.intents[posK keyVI s.intents (nameV v)]? with | some x => if hasK keyVI s.intents (nameV v) = true then some x.change else none | none => none
def intentA (s : PState) (v : PView) : AV := .tup [.agg (eV ((intentS s v).getD ⟨0, 0⟩)), .v (.bool (intentS s v).isSome)]
theorem intent_spec (s : PState) (v : PView) (hs : OkS s) (hv : rightV v = true) : ASpec Tryz.prog 31 [.agg (eSt s), .agg (eV v)] (· = intentA s v) := by
  refine ASpec.of_awp Tryz.func31 (by kernel_rfl) rfl (by rw [Tryz.results31]) Tryz.ntmps31 ?_
  simp -implicitDefEqProofs [eV, eSt]
  refine allocK.intro (fun b1 hb1 => ?_)
  simp -implicitDefEqProofs
  refine allocK.intro (fun b2 hb2 => ?_)
  have n12 : ¬ b1 = b2 := by rintro rfl; simp at hb2
  have n21 : ¬ b2 = b1 := fun h => n12 h.symm
  simp -implicitDefEqProofs [n12, n21]
  refine allocK.intro (fun b3 hb3 => ?_)
  have n13 : ¬ b1 = b3 := by rintro rfl; simp [n12] at hb3
  have n31 : ¬ b3 = b1 := fun h => n13 h.symm
  have n23 : ¬ b2 = b3 := by rintro rfl; simp at hb3
  have n32 : ¬ b3 = b2 := fun h => n23 h.symm
  simp -implicitDefEqProofs [n12, n21, n13, n31, n23, n32]
  refine regionK.intro 10 follows_mixed (by kernel_rfl) ?_
  simp -implicitDefEqProofs [n12, n21, n13, n31, n23, n32]
  refine CallQ.with shelvedVI_spec rfl ?_
  simp -implicitDefEqProofs [n12, n21, n13, n31, n23, n32]
  refine CallQ.with (placeVI_spec s.intents v hs.si (by have := hs.li; omega) hs.ri hv) (by simp [eV, rowsVI]) ?_
  have hat := hasK_at hs.si (nameV v)
  unfold intentA intentS
  rcases hat with ⟨x, hx, hk, hh⟩ | ⟨_, hh⟩
  · rw [hx, hh]
    have hlt : posK keyVI s.intents (nameV v) < s.intents.length := by
      rcases Nat.lt_or_ge (posK keyVI s.intents (nameV v)) s.intents.length with h | h
      · exact h
      · rw [List.getElem?_eq_none h] at hx; simp at hx
    generalize posK keyVI s.intents (nameV v) = p at *
    have hlt' : (p : Int) < (s.intents.length : Int) := by omega
    simp -implicitDefEqProofs [n12, n21, n13, n31, n23, n32, hx, hlt', eVI, eV]
  · rw [hh]
    have e : ∀ o : Option PVI, (match o with | some x => if false = true then some x.change else none | none => none) = (none : Option PView) := fun o => by cases o <;> simp
    rw [e]
    simp -implicitDefEqProofs [n12, n21, n13, n31, n23, n32, eV]
end Go.Proofs.YtjbbfiagijjdoaaGreat

/- Contracts: the state behind a record. No condition. -/
set_option linter.unusedSimpArgs false
set_option linter.unusedVariables false
set_option maxRecDepth 10000
namespace Go.Proofs.YtjbbfiagijjdoaaGreat
open Go Go.Rw Go.Proofs
-- a goal is never to be run by the elaborator
attribute [local irreducible] awp aops aop aopsE aeff

def applyS (s : PState) (r : PRec) : PState :=
  if r.kind = 1 then { s with books := putK keyVB s.books ⟨r.view, mergeE (bookS s r.view) [r.entry]⟩ }
  else if r.kind = 2 then { s with cells := putK keyVC s.cells ⟨r.view, mergeS (cellsS s r.view) [r.cell]⟩ }
  else if r.kind = 3 then (if withinV s.held r.view = true then { s with held := r.view } else s)
  else if r.kind = 4 then { s with last := max s.last r.n }
  else if r.kind = 5 then (if (intentS s r.view).isSome = true then s else { s with intents := putK keyVI s.intents ⟨r.view, r.cell.change⟩ })
  else if r.kind = 6 then { s with inc := max s.inc r.n }
  else s
theorem apply_spec (s : PState) (r : PRec) (hs : OkS s) (hv : rightV r.view = true) (hc : (cellsS s r.view ++ newsC (cellsS s r.view) [r.cell]).length ≤ 12 ∧ 0 < (cellsS s r.view ++ newsC (cellsS s r.view) [r.cell]).length) :
    ASpec Tryz.prog 44 [.agg (eSt s), .agg (eRc r)] (· = .agg (eSt (applyS s r))) := by
  refine ASpec.of_awp Tryz.func44 (by kernel_rfl) rfl (by rw [Tryz.results44]) Tryz.ntmps44 ?_
  simp -implicitDefEqProofs [eRc, eSt]
  refine allocK.intro (fun b1 hb1 => ?_)
  simp -implicitDefEqProofs
  refine allocK.intro (fun b2 hb2 => ?_)
  have n12 : ¬ b1 = b2 := by rintro rfl; simp at hb2
  have n21 : ¬ b2 = b1 := fun h => n12 h.symm
  simp -implicitDefEqProofs [n12, n21]
  refine allocK.intro (fun b3 hb3 => ?_)
  have n13 : ¬ b1 = b3 := by rintro rfl; simp [n12] at hb3
  have n31 : ¬ b3 = b1 := fun h => n13 h.symm
  have n23 : ¬ b2 = b3 := by rintro rfl; simp at hb3
  have n32 : ¬ b3 = b2 := fun h => n23 h.symm
  by_cases h1 : r.kind = 1
  · simp -implicitDefEqProofs [n12, n21, n13, n31, n23, n32, h1]
    refine regionK.intro 9 follows_mixed (by kernel_rfl) ?_
    simp -implicitDefEqProofs [n12, n21, n13, n31, n23, n32]
    refine CallQ.of (x := .sl .no (eEs (bookS s r.view))) (by have := book_spec s r.view hs hv; simpa [eSt, eV] using this) (by rintro _ ⟨tag, rfl⟩; rfl) ?_
    simp -implicitDefEqProofs [n12, n21, n13, n31, n23, n32]
    refine CallQ.of (x := .sl .no (eEs (mergeE (bookS s r.view) [r.entry]))) (by have := merge_spec (bookS s r.view) [r.entry]; simpa [eEs, eE] using this) (by rintro _ ⟨tag, rfl⟩; rfl) ?_
    simp -implicitDefEqProofs [n12, n21, n13, n31, n23, n32]
    refine regionK.intro 9 follows_mixed (by kernel_rfl) ?_
    simp -implicitDefEqProofs [n12, n21, n13, n31, n23, n32]
    refine CallQ.with shelvedVB_spec rfl ?_
    simp -implicitDefEqProofs [n12, n21, n13, n31, n23, n32]
    refine CallQ.of (x := .sl .no (rowsVB (putK keyVB s.books ⟨r.view, mergeE (bookS s r.view) [r.entry]⟩))) (by have := putVB_spec s.books ⟨r.view, mergeE (bookS s r.view) [r.entry]⟩ hs.sb (by have := hs.lb; omega) hs.rb hv; simpa [rowsVB, eVB] using this) (by rintro _ ⟨tag, rfl⟩; rfl) ?_
    simp -implicitDefEqProofs [n12, n21, n13, n31, n23, n32, applyS, h1, eSt, rowsVB]
  · by_cases h2 : r.kind = 2
    · have h2' : (2 : Int) = 1 ↔ False := by decide
      simp -implicitDefEqProofs [n12, n21, n13, n31, n23, n32, h1, h2]
      refine regionK.intro 9 follows_mixed (by kernel_rfl) ?_
      simp -implicitDefEqProofs [n12, n21, n13, n31, n23, n32]
      refine CallQ.of (x := .sl .no (eCs (cellsS s r.view))) (by have := cells_spec s r.view hs hv; simpa [eSt, eV] using this) (by rintro _ ⟨tag, rfl⟩; rfl) ?_
      simp -implicitDefEqProofs [n12, n21, n13, n31, n23, n32]
      refine CallQ.of (x := .sl .no (eCs (mergeS (cellsS s r.view) [r.cell]))) (by have := cmerge_spec (cellsS s r.view) [r.cell] hc.1 hc.2 (by simp); simpa [eCs, eC] using this) (by rintro _ ⟨tag, rfl⟩; rfl) ?_
      simp -implicitDefEqProofs [n12, n21, n13, n31, n23, n32]
      refine regionK.intro 9 follows_mixed (by kernel_rfl) ?_
      simp -implicitDefEqProofs [n12, n21, n13, n31, n23, n32]
      refine CallQ.with shelvedVC_spec rfl ?_
      simp -implicitDefEqProofs [n12, n21, n13, n31, n23, n32]
      refine CallQ.of (x := .sl .no (rowsVC (putK keyVC s.cells ⟨r.view, mergeS (cellsS s r.view) [r.cell]⟩))) (by have := putVC_spec s.cells ⟨r.view, mergeS (cellsS s r.view) [r.cell]⟩ hs.sc (by have := hs.lc; omega) hs.rc hv; simpa [rowsVC, eVC] using this) (by rintro _ ⟨tag, rfl⟩; rfl) ?_
      simp -implicitDefEqProofs [n12, n21, n13, n31, n23, n32, applyS, h1, h2, eSt, rowsVC]
    · by_cases h3 : r.kind = 3
      · simp -implicitDefEqProofs [n12, n21, n13, n31, n23, n32, h1, h2, h3]
        refine CallK.with (within_spec s.held r.view hs.rh hv) (by simp [eV]) ?_
        cases hw : withinV s.held r.view
        · simp -implicitDefEqProofs [n12, n21, n13, n31, n23, n32, applyS, h1, h2, h3, hw, eSt]
        · simp -implicitDefEqProofs [n12, n21, n13, n31, n23, n32, applyS, h1, h2, h3, hw, eSt]
      · by_cases h4 : r.kind = 4
        · simp -implicitDefEqProofs [n12, n21, n13, n31, n23, n32, h1, h2, h3, h4, applyS, eSt]
          split <;> omega
        · by_cases h5 : r.kind = 5
          · simp -implicitDefEqProofs [n12, n21, n13, n31, n23, n32, h1, h2, h3, h4, h5]
            refine CallK.with (intent_spec s r.view hs hv) (by simp [eSt, eV]) ?_
            rw [intentA]
            simp -implicitDefEqProofs [n12, n21, n13, n31, n23, n32, eV]
            refine allocK.intro (fun b4 hb4 => ?_)
            have n14 : ¬ b1 = b4 := by rintro rfl; simp [n12, n13] at hb4
            have n41 : ¬ b4 = b1 := fun h => n14 h.symm
            have n24 : ¬ b2 = b4 := by rintro rfl; simp [n23] at hb4
            have n42 : ¬ b4 = b2 := fun h => n24 h.symm
            have n34 : ¬ b3 = b4 := by rintro rfl; simp at hb4
            have n43 : ¬ b4 = b3 := fun h => n34 h.symm
            cases ho : (intentS s r.view).isSome
            · simp -implicitDefEqProofs [n12, n21, n13, n31, n23, n32, n14, n41, n24, n42, n34, n43]
              refine regionK.intro 11 follows_mixed (by kernel_rfl) ?_
              simp -implicitDefEqProofs [n12, n21, n13, n31, n23, n32, n14, n41, n24, n42, n34, n43]
              refine CallQ.with shelvedVI_spec rfl ?_
              simp -implicitDefEqProofs [n12, n21, n13, n31, n23, n32, n14, n41, n24, n42, n34, n43]
              refine CallQ.of (x := .sl .no (rowsVI (putK keyVI s.intents ⟨r.view, r.cell.change⟩))) (by have := putVI_spec s.intents ⟨r.view, r.cell.change⟩ hs.si (by have := hs.li; omega) hs.ri hv; simpa [rowsVI, eVI] using this) (by rintro _ ⟨tag, rfl⟩; rfl) ?_
              simp -implicitDefEqProofs [n12, n21, n13, n31, n23, n32, n14, n41, n24, n42, n34, n43, applyS, h1, h2, h3, h4, h5, ho, eSt, rowsVI]
            · simp -implicitDefEqProofs [n12, n21, n13, n31, n23, n32, n14, n41, n24, n42, n34, n43, applyS, h1, h2, h3, h4, h5, ho, eSt]
          · by_cases h6 : r.kind = 6
            · simp -implicitDefEqProofs [n12, n21, n13, n31, n23, n32, h1, h2, h3, h4, h5, h6, applyS, eSt]
              split <;> omega
            · simp -implicitDefEqProofs [n12, n21, n13, n31, n23, n32, h1, h2, h3, h4, h5, h6, applyS, eSt]
end Go.Proofs.YtjbbfiagijjdoaaGreat

/- Plain: states that can be stay so. No condition. -/
set_option linter.unusedSimpArgs false
set_option linter.unusedVariables false
set_option maxRecDepth 10000
namespace Go.Proofs.YtjbbfiagijjdoaaGreat
open Go Go.Rw Go.Proofs

section
variable {α : Type} {key : α → Int}
theorem sort_put {l : List α} (h : sortK key l) (x : α) : sortK key (putK key l x) := by
  unfold sortK putK
  rw [List.pairwise_append, List.pairwise_cons]
  refine ⟨h.filter _, ⟨fun y hy => ?_, h.filter _⟩, fun y hy z hz => ?_⟩
  · have := (List.mem_filter.1 hy).2
    simpa using this
  · have h1 := (List.mem_filter.1 hy).2
    simp at h1
    rcases List.mem_cons.1 hz with rfl | hz
    · exact h1
    · have h2 := (List.mem_filter.1 hz).2
      simp at h2; omega
theorem mem_put {l : List α} {x y : α} (h : y ∈ putK key l x) : y = x ∨ y ∈ l := by
  unfold putK at h
  rcases List.mem_append.1 h with h | h
  · exact .inr (List.mem_filter.1 h).1
  · rcases List.mem_cons.1 h with h | h
    · exact .inl h
    · exact .inr (List.mem_filter.1 h).1
theorem put_len {l : List α} (h : sortK key l) (x : α) : (putK key l x).length ≤ l.length + 1 := by
  unfold putK
  rw [List.length_append, List.length_cons]
  have h1 : (l.filter fun y => decide (key x < key y)).length ≤ (l.filter fun y => decide (¬ key y < key x)).length := by
    rw [← List.countP_eq_length_filter, ← List.countP_eq_length_filter]
    refine List.countP_mono_left fun y _ hy => ?_
    simp at hy ⊢; omega
  obtain ⟨t1, t2⟩ := take_posK h (key x)
  rw [← t2] at h1
  have h2 : (l.filter fun y => decide (key y < key x)).length = (l.take (posK key l (key x))).length := by rw [t1]
  rw [h2, List.length_take]
  rw [List.length_drop] at h1
  have := posK_le (key := key) l (key x)
  omega
end
/-- a state behind at most n records -/
structure OkN (n : Nat) (s : PState) : Prop where
  sb : sortK keyVB s.books
  sc : sortK keyVC s.cells
  si : sortK keyVI s.intents
  rb : ∀ x ∈ s.books, rightV x.view = true
  rc : ∀ x ∈ s.cells, rightV x.view = true
  ri : ∀ x ∈ s.intents, rightV x.view = true
  rh : rightV s.held = true
  lb : s.books.length ≤ n
  lc : s.cells.length ≤ n
  li : s.intents.length ≤ n
  bl : ∀ x ∈ s.books, x.book.length ≤ 4
  cl : ∀ x ∈ s.cells, okCs x.cells
theorem OkN.ok {n : Nat} {s : PState} (h : OkN n s) (hn : n ≤ 100000) : OkS s :=
  ⟨h.sb, h.sc, h.si, h.rb, h.rc, h.ri, h.rh, by have := h.lb; omega, by have := h.lc; omega, by have := h.li; omega, fun x hx => by have := h.bl x hx; omega, fun x hx => by have := okCs_len (h.cl x hx); omega⟩
theorem okCs_nil : okCs [] := ⟨List.Pairwise.nil, fun x hx => by simp at hx⟩
theorem OkN.cells {n : Nat} {s : PState} (h : OkN n s) (v : PView) : okCs (cellsS s v) := by
  unfold cellsS
  split
  · rename_i x hx
    split
    · exact h.cl x (List.mem_of_getElem? hx)
    · exact okCs_nil
  · exact okCs_nil
theorem right_cell {r : PRec} (h : rightR r = true) : rightV r.view = true ∧ 0 ≤ r.cell.node ∧ r.cell.node < 6 := by
  simp [rightR] at h
  exact ⟨h.1.1.1.2, h.1.2.1, h.1.2.2⟩
theorem okCs_one {c : PCell} (h : 0 ≤ c.node ∧ c.node < 6) : okCs [c] := ⟨by simp, fun x hx => by simp at hx; subst hx; exact h⟩
theorem OkN.news {n : Nat} {s : PState} (h : OkN n s) {r : PRec} (hr : rightR r = true) : (cellsS s r.view ++ newsC (cellsS s r.view) [r.cell]).length ≤ 12 ∧ 0 < (cellsS s r.view ++ newsC (cellsS s r.view) [r.cell]).length := by
  refine ⟨news_len (h.cells r.view) (okCs_one (right_cell hr).2), ?_⟩
  rw [List.length_append]
  cases hc : cellsS s r.view with
  | nil => simp [newsC, ofC]
  | cons => simp only [List.length_cons]; omega
theorem OkN.mono {n m : Nat} {s : PState} (h : OkN n s) (hn : n ≤ m) : OkN m s :=
  ⟨h.sb, h.sc, h.si, h.rb, h.rc, h.ri, h.rh, by have := h.lb; omega, by have := h.lc; omega, by have := h.li; omega, h.bl, h.cl⟩
theorem okN_apply {n : Nat} {s : PState} (h : OkN n s) {r : PRec} (hr : rightR r = true) : OkN (n + 1) (applyS s r) := by
  have hv := (right_cell hr).1
  unfold applyS
  split
  · have hl := put_len h.sb ⟨r.view, mergeE (bookS s r.view) [r.entry]⟩
    refine ⟨sort_put h.sb _, h.sc, h.si, fun x hx => ?_, h.rc, h.ri, h.rh, by have := h.lb; simp only; omega, by have := h.lc; simp only; omega, by have := h.li; simp only; omega, fun x hx => ?_, h.cl⟩
    · rcases mem_put hx with rfl | hx
      · exact hv
      · exact h.rb x hx
    · rcases mem_put hx with rfl | hx
      · exact mergeK_le _ _ 4
      · exact h.bl x hx
  · split
    · have hl := put_len h.sc ⟨r.view, mergeS (cellsS s r.view) [r.cell]⟩
      refine ⟨h.sb, sort_put h.sc _, h.si, h.rb, fun x hx => ?_, h.ri, h.rh, by have := h.lb; simp only; omega, by have := h.lc; simp only; omega, by have := h.li; simp only; omega, h.bl, fun x hx => ?_⟩
      · rcases mem_put hx with rfl | hx
        · exact hv
        · exact h.rc x hx
      · rcases mem_put hx with rfl | hx
        · show okCs (mergeS (cellsS s r.view) [r.cell])
          rw [mergeS_eq (h.cells r.view) (okCs_one (right_cell hr).2)]
          exact okCs_merge _ _
        · exact h.cl x hx
    · split
      · split
        · exact ⟨h.sb, h.sc, h.si, h.rb, h.rc, h.ri, hv, by have := h.lb; simp only; omega, by have := h.lc; simp only; omega, by have := h.li; simp only; omega, h.bl, h.cl⟩
        · exact h.mono (by omega)
      · split
        · exact ⟨h.sb, h.sc, h.si, h.rb, h.rc, h.ri, h.rh, by have := h.lb; simp only; omega, by have := h.lc; simp only; omega, by have := h.li; simp only; omega, h.bl, h.cl⟩
        · split
          · split
            · exact h.mono (by omega)
            · have hl := put_len h.si ⟨r.view, r.cell.change⟩
              refine ⟨h.sb, h.sc, sort_put h.si _, h.rb, h.rc, fun x hx => ?_, h.rh, by have := h.lb; simp only; omega, by have := h.lc; simp only; omega, by have := h.li; simp only; omega, h.bl, h.cl⟩
              rcases mem_put hx with rfl | hx
              · exact hv
              · exact h.ri x hx
          · split
            · exact ⟨h.sb, h.sc, h.si, h.rb, h.rc, h.ri, h.rh, by have := h.lb; simp only; omega, by have := h.lc; simp only; omega, by have := h.li; simp only; omega, h.bl, h.cl⟩
            · exact h.mono (by omega)
/-- the state behind records -/
def newS (v : PView) : PState := ⟨[], [], [], v, 0, 0⟩
def foldS (v : PView) (l : List PRec) : PState := l.foldl applyS (newS v)
theorem okN_new {v : PView} (h : rightV v = true) : OkN 0 (newS v) :=
  ⟨List.Pairwise.nil, List.Pairwise.nil, List.Pairwise.nil, fun x hx => by simp [newS] at hx, fun x hx => by simp [newS] at hx, fun x hx => by simp [newS] at hx, h, Nat.le_refl _, Nat.le_refl _, Nat.le_refl _, fun x hx => by simp [newS] at hx, fun x hx => by simp [newS] at hx⟩
theorem foldS_step {v : PView} {l : List PRec} {k : Nat} {r : PRec} (h : l[k]? = some r) : foldS v (l.take (k + 1)) = applyS (foldS v (l.take k)) r := by
  unfold foldS
  rw [List.take_add_one, h, List.foldl_append]; rfl
theorem okN_fold {v : PView} (hv : rightV v = true) {l : List PRec} (hl : ∀ r ∈ l, rightR r = true) (k : Nat) (hk : k ≤ l.length) : OkN k (foldS v (l.take k)) := by
  induction k with
  | zero => simpa [foldS] using okN_new hv
  | succ k ih =>
    have hx : l[k]? = some l[k] := List.getElem?_eq_getElem (by omega)
    rw [foldS_step hx]
    exact okN_apply (ih (by omega)) (hl _ (List.mem_of_getElem? hx))
end Go.Proofs.YtjbbfiagijjdoaaGreat

/- Contracts: the state behind records. No condition. -/
set_option linter.unusedSimpArgs false
set_option linter.unusedVariables false
set_option maxRecDepth 10000
namespace Go.Proofs.YtjbbfiagijjdoaaGreat
open Go Go.Rw Go.Proofs
-- a goal is never to be run by the elaborator
attribute [local irreducible] awp aops aop aopsE aeff

def FoI (v : PView) (l : List PRec) (b2 b3 : Nat) (t : Nat → AV) (h : Nat → Option (List AV)) : Prop := ∃ k : Nat, t 4 = .ptr b2 0 ∧ t 5 = .ptr b3 0 ∧ t 10 = .sl .no (eRs l) ∧ t 11 = eI l.length ∧ t 12 = eI k ∧ k ≤ l.length ∧ (∃ z, h b2 = some z ∧ z.length = 7) ∧ h b3 = some (eSt (foldS v (l.take k)))
def FoM (v : PView) (l : List PRec) (b2 b3 : Nat) (t : Nat → AV) (h : Nat → Option (List AV)) : Prop := t 4 = .ptr b2 0 ∧ t 5 = .ptr b3 0 ∧ (∃ z, h b2 = some z ∧ z.length = 7) ∧ h b3 = some (eSt (foldS v l))
theorem fold_spec (v : PView) (l : List PRec) (hv : rightV v = true) (hl : ∀ r ∈ l, rightR r = true) (hn : l.length ≤ 100000) : ASpec Tryz.prog 20 [.agg (eV v), .sl .no (eRs l)] (· = .agg (eSt (foldS v l))) := by
  refine ASpec.of_awp Tryz.func20 (by kernel_rfl) rfl (by rw [Tryz.results20]) Tryz.ntmps20 ?_
  simp -implicitDefEqProofs [eV]
  refine allocK.intro (fun b1 hb1 => ?_)
  simp -implicitDefEqProofs
  refine allocK.intro (fun b2 hb2 => ?_)
  have n12 : ¬ b1 = b2 := by rintro rfl; simp at hb2
  have n21 : ¬ b2 = b1 := fun h => n12 h.symm
  simp -implicitDefEqProofs [n12, n21]
  refine CallK.with (new_spec v) (by simp [eV]) ?_
  simp -implicitDefEqProofs [eSt]
  refine allocK.intro (fun b3 hb3 => ?_)
  have n13 : ¬ b1 = b3 := by rintro rfl; simp [n12] at hb3
  have n31 : ¬ b3 = b1 := fun h => n13 h.symm
  have n23 : ¬ b2 = b3 := by rintro rfl; simp at hb3
  have n32 : ¬ b3 = b2 := fun h => n23 h.symm
  simp -implicitDefEqProofs [n12, n21, n13, n31, n23, n32]
  intro _
  refine loopK.post (FoI v l b2 b3) (fun t => l.length - natOf (t 12)) (FoM v l b2 b3) ?_ ?_ ?_
  · exact ⟨0, by simp, by simp, by simp, by simp, by simp, by omega, ⟨[.sl .nil [], .sl .nil [], .sl .nil [], eI 0, eI 0, eI 0, eI 0], by simp [n23, n21], rfl⟩, by simp [foldS, newS, eSt]⟩
  · rintro t hh ⟨k, g4, g5, g10, g11, g12, hk, ⟨z, kz, hz⟩, k3⟩
    by_cases hlt : k < l.length
    · have hlt' : (k : Int) < (l.length : Int) := by omega
      obtain ⟨r, hx⟩ : ∃ r, l[k]? = some r := ⟨l[k], by simp [hlt]⟩
      have hw : IntKind.i64.wrap ((k : Int) + 1) = ((k + 1 : Nat) : Int) := by rw [w64 (by omega) (by omega)]; omega
      have hok := okN_fold hv hl k hk
      have hr := hl r (List.mem_of_getElem? hx)
      have hst := foldS_step (v := v) hx
      generalize foldS v (l.take k) = s at *
      have hap := apply_spec s r (hok.ok (by omega)) (right_cell hr).1 (hok.news hr)
      generalize applyS s r = s2 at *
      simp -implicitDefEqProofs [g10, g11, g12, hlt', hx, eRc]
      refine allocK.intro (fun b4 hb4 => ?_)
      have n24 : ¬ b2 = b4 := by rintro rfl; rw [kz] at hb4; simp at hb4
      have n42 : ¬ b4 = b2 := fun h => n24 h.symm
      have n34 : ¬ b3 = b4 := by rintro rfl; rw [k3] at hb4; simp at hb4
      have n43 : ¬ b4 = b3 := fun h => n34 h.symm
      rw [eSt] at k3
      simp -implicitDefEqProofs [g5, k3, n23, n32, n24, n42, n34, n43]
      refine CallK.with hap (by simp [eSt, eRc]) ?_
      simp -implicitDefEqProofs [g5, k3, n23, n32, n24, n42, n34, n43, g12, hw, eSt]
      exact ⟨⟨k + 1, by simp [g4], by simp [g5], by simp [g10], by simp [g11], by simp, by omega, ⟨z, by simp [n23, n24, kz], hz⟩, by rw [hst]; simp [eSt]⟩, by omega⟩
    · have hlt' : ¬ (k : Int) < (l.length : Int) := by omega
      rw [List.take_of_length_le (by omega)] at k3
      simp -implicitDefEqProofs [g11, g12, hlt']
      exact ⟨by simp [g4], by simp [g5], ⟨z, kz, hz⟩, k3⟩
  rintro t hh ⟨g4, g5, ⟨z, kz, hz⟩, k3⟩
  generalize foldS v l = s at *
  rw [eSt] at k3
  simp -implicitDefEqProofs [g4, g5, kz, k3, hz, n23, n32, eSt]
end Go.Proofs.YtjbbfiagijjdoaaGreat

/- Contracts: lists of what is told of views (api.ViewBook) that are the same. Printed by sort/gen.py. No condition. -/
set_option linter.unusedSimpArgs false
set_option linter.unusedVariables false
set_option maxRecDepth 10000
namespace Go.Proofs.YtjbbfiagijjdoaaGreat
open Go Go.Rw Go.Proofs
-- a goal is never to be run by the elaborator
attribute [local irreducible] awp aops aop aopsE aeff

def sameVB (x y : PVB) : Bool := decide (x.view = y.view) && sameEs x.book y.book
def sameVBs : List PVB → List PVB → Bool
  | [], [] => true
  | x :: l, y :: m => sameVB x y && sameVBs l m
  | _, _ => false
theorem sameVBs_len : ∀ {a b : List PVB}, a.length ≠ b.length → sameVBs a b = false
  | [], [], h => absurd rfl h
  | [], _ :: _, _ => rfl
  | _ :: _, [], _ => rfl
  | x :: a, y :: b, h => by
    have := sameVBs_len (a := a) (b := b) (by simp at h; exact h)
    simp [sameVBs, this]
theorem sameVB_spec (x y : PVB) : ASpec Tryz.prog 122 [.agg (eVB x), .agg (eVB y)] (· = .v (.bool (sameVB x y))) := by
  refine ASpec.of_awp Tryz.func122 (by kernel_rfl) rfl (by rw [Tryz.results122]) Tryz.ntmps122 ?_
  simp -implicitDefEqProofs [eVB]
  refine allocK.intro (fun b hb => ?_)
  simp -implicitDefEqProofs
  refine allocK.intro (fun b2 hb2 => ?_)
  have hbb : ¬ b = b2 := by rintro rfl; simp at hb2
  have hbb' : ¬ b2 = b := fun h => hbb h.symm
  by_cases h1 : x.view.add = y.view.add
  · by_cases h2 : x.view.del = y.view.del
    · have hv : x.view = y.view := by
        obtain ⟨⟨p, q⟩, _⟩ := x
        obtain ⟨⟨p2, q2⟩, _⟩ := y
        simp at h1 h2
        simp [h1, h2]
      simp -implicitDefEqProofs [hbb, hbb', h1, h2]
      refine CallK.with (book_same x.book y.book) rfl ?_
      simp -implicitDefEqProofs [sameVB, hv]
    · have hv : ¬ x.view = y.view := fun h => h2 (by rw [h])
      have h2b : (x.view.del == y.view.del) = false := by simpa using h2
      simp -implicitDefEqProofs [hbb, hbb', h1, h2, h2b, sameVB, hv]
  · have hv : ¬ x.view = y.view := fun h => h1 (by rw [h])
    have h1b : (x.view.add == y.view.add) = false := by simpa using h1
    simp -implicitDefEqProofs [hbb, hbb', h1, h1b, sameVB, hv]
def EqVBI (a b : List PVB) (t : Nat → AV) (_ : Nat → Option (List AV)) : Prop := ∃ k : Nat, t 15 = .sl .no (rowsVB a) ∧ t 1 = .sl .no (rowsVB b) ∧ t 2 = .fn 122 [] ∧ t 16 = .v (.int .i64 a.length) ∧ t 17 = .v (.int .i64 k) ∧ k ≤ a.length ∧ sameVBs (a.drop k) (b.drop k) = sameVBs a b
theorem equalfVB_spec (a b : List PVB) : ASpec Tryz.prog 121 [.sl .no (rowsVB a), .sl .no (rowsVB b), .fn 122 []] (· = .v (.bool (sameVBs a b))) := by
  refine ASpec.of_awp Tryz.func121 (by kernel_rfl) rfl (by rw [Tryz.results121]) Tryz.ntmps121 ?_
  simp -implicitDefEqProofs
  intro h1 h2
  refine branch_dec (fun hb => ?_) (fun hb => ?_)
  · have hl : a.length = b.length := by omega
    simp -implicitDefEqProofs
    intro _
    refine loopK.intro (EqVBI a b) (fun t => a.length - natOf (t 17)) ?_ ?_
    · exact ⟨0, by simp, by simp, by simp, by simp, by simp, by omega, by simp⟩
    rintro t hh ⟨k, g15, g1, g2, g16, g17, hk, he⟩
    simp -implicitDefEqProofs [g16, g17]
    refine branch_dec (fun hlt => ?_) (fun hlt => ?_)
    · have hlt : k < a.length := by omega
      have hlt2 : k < b.length := by omega
      obtain ⟨x, hx⟩ : ∃ x, a[k]? = some x := ⟨a[k], by simp [hlt]⟩
      obtain ⟨y, hy⟩ : ∃ y, b[k]? = some y := ⟨b[k], by simp [hlt2]⟩
      have hdx : a.drop k = x :: a.drop (k + 1) := by
        rw [List.drop_eq_getElem_cons hlt]; rw [List.getElem?_eq_getElem hlt] at hx; rw [Option.some.inj hx]
      have hdy : b.drop k = y :: b.drop (k + 1) := by
        rw [List.drop_eq_getElem_cons hlt2]; rw [List.getElem?_eq_getElem hlt2] at hy; rw [Option.some.inj hy]
      rw [hdx, hdy, sameVBs] at he
      have hj1 : IntKind.i64.wrap ((k : Int) + 1) = (k : Int) + 1 := w64 (by omega) (by omega)
      simp -implicitDefEqProofs [g15, g17, hx, eVB]
      refine allocK.intro (fun b1 hb1 => ?_)
      simp -implicitDefEqProofs [g1, hy, eVB]
      refine allocK.intro (fun b2 hb2 => ?_)
      have hbb : ¬ b1 = b2 := by rintro rfl; simp at hb2
      have hbb' : ¬ b2 = b1 := fun h => hbb h.symm
      simp -implicitDefEqProofs [g2, hbb, hbb']
      refine CallK.with (sameVB_spec x y) (by simp [eVB]) ?_
      simp -implicitDefEqProofs
      refine branch_intro (fun h3 => ?_) (fun h3 => ?_)
      · rw [h3, Bool.true_and] at he
        simp -implicitDefEqProofs [g17, hj1]
        exact ⟨⟨k + 1, by simp [g15], by simp [g1], by simp [g2], by simp [g16], by simp, by omega, he⟩, by omega⟩
      · rw [h3, Bool.false_and] at he
        simp -implicitDefEqProofs [← he]
    · have hk' : k = a.length := by omega
      subst hk'
      rw [List.drop_length, hl, List.drop_length, sameVBs] at he
      simp -implicitDefEqProofs [← he]
  · have hr : sameVBs a b = false := sameVBs_len (by omega)
    simp -implicitDefEqProofs [hr]
end Go.Proofs.YtjbbfiagijjdoaaGreat

/- Contracts: lists of what is told of views (api.ViewCells) that are the same. Printed by sort/gen.py. No condition. -/
set_option linter.unusedSimpArgs false
set_option linter.unusedVariables false
set_option maxRecDepth 10000
namespace Go.Proofs.YtjbbfiagijjdoaaGreat
open Go Go.Rw Go.Proofs
-- a goal is never to be run by the elaborator
attribute [local irreducible] awp aops aop aopsE aeff

def sameVC (x y : PVC) : Bool := decide (x.view = y.view) && decide (x.cells = y.cells)
def sameVCs : List PVC → List PVC → Bool
  | [], [] => true
  | x :: l, y :: m => sameVC x y && sameVCs l m
  | _, _ => false
theorem sameVCs_len : ∀ {a b : List PVC}, a.length ≠ b.length → sameVCs a b = false
  | [], [], h => absurd rfl h
  | [], _ :: _, _ => rfl
  | _ :: _, [], _ => rfl
  | x :: a, y :: b, h => by
    have := sameVCs_len (a := a) (b := b) (by simp at h; exact h)
    simp [sameVCs, this]
theorem sameVC_spec (x y : PVC) : ASpec Tryz.prog 124 [.agg (eVC x), .agg (eVC y)] (· = .v (.bool (sameVC x y))) := by
  refine ASpec.of_awp Tryz.func124 (by kernel_rfl) rfl (by rw [Tryz.results124]) Tryz.ntmps124 ?_
  simp -implicitDefEqProofs [eVC]
  refine allocK.intro (fun b hb => ?_)
  simp -implicitDefEqProofs
  refine allocK.intro (fun b2 hb2 => ?_)
  have hbb : ¬ b = b2 := by rintro rfl; simp at hb2
  have hbb' : ¬ b2 = b := fun h => hbb h.symm
  by_cases h1 : x.view.add = y.view.add
  · by_cases h2 : x.view.del = y.view.del
    · have hv : x.view = y.view := by
        obtain ⟨⟨p, q⟩, _⟩ := x
        obtain ⟨⟨p2, q2⟩, _⟩ := y
        simp at h1 h2
        simp [h1, h2]
      simp -implicitDefEqProofs [hbb, hbb', h1, h2]
      refine CallK.with (equal_cells x.cells y.cells) rfl ?_
      simp -implicitDefEqProofs [sameVC, hv]
    · have hv : ¬ x.view = y.view := fun h => h2 (by rw [h])
      have h2b : (x.view.del == y.view.del) = false := by simpa using h2
      simp -implicitDefEqProofs [hbb, hbb', h1, h2, h2b, sameVC, hv]
  · have hv : ¬ x.view = y.view := fun h => h1 (by rw [h])
    have h1b : (x.view.add == y.view.add) = false := by simpa using h1
    simp -implicitDefEqProofs [hbb, hbb', h1, h1b, sameVC, hv]
def EqVCI (a b : List PVC) (t : Nat → AV) (_ : Nat → Option (List AV)) : Prop := ∃ k : Nat, t 15 = .sl .no (rowsVC a) ∧ t 1 = .sl .no (rowsVC b) ∧ t 2 = .fn 124 [] ∧ t 16 = .v (.int .i64 a.length) ∧ t 17 = .v (.int .i64 k) ∧ k ≤ a.length ∧ sameVCs (a.drop k) (b.drop k) = sameVCs a b
theorem equalfVC_spec (a b : List PVC) : ASpec Tryz.prog 123 [.sl .no (rowsVC a), .sl .no (rowsVC b), .fn 124 []] (· = .v (.bool (sameVCs a b))) := by
  refine ASpec.of_awp Tryz.func123 (by kernel_rfl) rfl (by rw [Tryz.results123]) Tryz.ntmps123 ?_
  simp -implicitDefEqProofs
  intro h1 h2
  refine branch_dec (fun hb => ?_) (fun hb => ?_)
  · have hl : a.length = b.length := by omega
    simp -implicitDefEqProofs
    intro _
    refine loopK.intro (EqVCI a b) (fun t => a.length - natOf (t 17)) ?_ ?_
    · exact ⟨0, by simp, by simp, by simp, by simp, by simp, by omega, by simp⟩
    rintro t hh ⟨k, g15, g1, g2, g16, g17, hk, he⟩
    simp -implicitDefEqProofs [g16, g17]
    refine branch_dec (fun hlt => ?_) (fun hlt => ?_)
    · have hlt : k < a.length := by omega
      have hlt2 : k < b.length := by omega
      obtain ⟨x, hx⟩ : ∃ x, a[k]? = some x := ⟨a[k], by simp [hlt]⟩
      obtain ⟨y, hy⟩ : ∃ y, b[k]? = some y := ⟨b[k], by simp [hlt2]⟩
      have hdx : a.drop k = x :: a.drop (k + 1) := by
        rw [List.drop_eq_getElem_cons hlt]; rw [List.getElem?_eq_getElem hlt] at hx; rw [Option.some.inj hx]
      have hdy : b.drop k = y :: b.drop (k + 1) := by
        rw [List.drop_eq_getElem_cons hlt2]; rw [List.getElem?_eq_getElem hlt2] at hy; rw [Option.some.inj hy]
      rw [hdx, hdy, sameVCs] at he
      have hj1 : IntKind.i64.wrap ((k : Int) + 1) = (k : Int) + 1 := w64 (by omega) (by omega)
      simp -implicitDefEqProofs [g15, g17, hx, eVC]
      refine allocK.intro (fun b1 hb1 => ?_)
      simp -implicitDefEqProofs [g1, hy, eVC]
      refine allocK.intro (fun b2 hb2 => ?_)
      have hbb : ¬ b1 = b2 := by rintro rfl; simp at hb2
      have hbb' : ¬ b2 = b1 := fun h => hbb h.symm
      simp -implicitDefEqProofs [g2, hbb, hbb']
      refine CallK.with (sameVC_spec x y) (by simp [eVC]) ?_
      simp -implicitDefEqProofs
      refine branch_intro (fun h3 => ?_) (fun h3 => ?_)
      · rw [h3, Bool.true_and] at he
        simp -implicitDefEqProofs [g17, hj1]
        exact ⟨⟨k + 1, by simp [g15], by simp [g1], by simp [g2], by simp [g16], by simp, by omega, he⟩, by omega⟩
      · rw [h3, Bool.false_and] at he
        simp -implicitDefEqProofs [← he]
    · have hk' : k = a.length := by omega
      subst hk'
      rw [List.drop_length, hl, List.drop_length, sameVCs] at he
      simp -implicitDefEqProofs [← he]
  · have hr : sameVCs a b = false := sameVCs_len (by omega)
    simp -implicitDefEqProofs [hr]
end Go.Proofs.YtjbbfiagijjdoaaGreat

/- Plain: what a state tells behind a record. No condition. -/
set_option linter.unusedSimpArgs false
set_option linter.unusedVariables false
set_option maxRecDepth 10000
namespace Go.Proofs.YtjbbfiagijjdoaaGreat
open Go Go.Rw Go.Proofs

section
variable {α : Type} {key : α → Int}
/-- what stands behind a name -/
def lookK (key : α → Int) (l : List α) (n : Int) : Option α := l.find? fun x => decide (key x = n)
theorem look_none {l : List α} {n : Int} : lookK key l n = none ↔ ∀ x ∈ l, ¬ key x = n := by
  unfold lookK; simp
theorem look_some {l : List α} {n : Int} {x : α} (h : lookK key l n = some x) : x ∈ l ∧ key x = n :=
  ⟨List.mem_of_find?_eq_some h, by simpa using List.find?_some h⟩
theorem key_inj {l : List α} (hl : sortK key l) {x y : α} (hx : x ∈ l) (hy : y ∈ l) (h : key x = key y) : x = y := by
  unfold sortK at hl
  induction l with
  | nil => simp at hx
  | cons z l ih =>
    rw [List.pairwise_cons] at hl
    rcases List.mem_cons.1 hx with hx1 | hx1
    · rcases List.mem_cons.1 hy with hy1 | hy1
      · rw [hx1, hy1]
      · have := hl.1 y hy1; rw [hx1] at h; omega
    · rcases List.mem_cons.1 hy with hy1 | hy1
      · have := hl.1 x hx1; rw [hy1] at h; omega
      · exact ih hl.2 hx1 hy1
theorem look_mem {l : List α} (hl : sortK key l) {x : α} : x ∈ l ↔ lookK key l (key x) = some x := by
  constructor
  · intro hx
    cases h : lookK key l (key x) with
    | none => exact absurd rfl (look_none.1 h x hx)
    | some y =>
      obtain ⟨h1, h2⟩ := look_some h
      rw [key_inj hl h1 hx h2]
  · exact fun h => (look_some h).1
theorem look_put (l : List α) (x : α) (n : Int) : lookK key (putK key l x) n = if key x = n then some x else lookK key l n := by
  unfold lookK putK
  rw [List.find?_append, List.find?_cons, List.find?_filter, List.find?_filter]
  by_cases h : key x = n
  · have e : l.find? (fun y => decide (decide (key y < key x) = true ∧ decide (key y = n) = true)) = none := List.find?_eq_none.2 fun y _ => by simp; omega
    rw [if_pos h, e]
    simp [h]
  · rw [if_neg h]
    rcases Int.lt_or_gt_of_ne h with h1 | h1
    · have e1 : l.find? (fun y => decide (decide (key y < key x) = true ∧ decide (key y = n) = true)) = none := List.find?_eq_none.2 fun y _ => by simp; omega
      have e2 : (fun y => decide (decide (key x < key y) = true ∧ decide (key y = n) = true)) = fun y => decide (key y = n) := by funext y; by_cases h2 : key y = n <;> simp [h2]; omega
      rw [e1, e2]
      simp [h]
    · have e1 : l.find? (fun y => decide (decide (key x < key y) = true ∧ decide (key y = n) = true)) = none := List.find?_eq_none.2 fun y _ => by simp; omega
      have e2 : (fun y => decide (decide (key y < key x) = true ∧ decide (key y = n) = true)) = fun y => decide (key y = n) := by funext y; by_cases h2 : key y = n <;> simp [h2]; omega
      rw [e1, e2]
      simp [h]
theorem nodupK {l : List α} (hl : sortK key l) : l.Nodup := hl.imp fun h => by rintro rfl; omega
end
theorem name_inj {v w : PView} (hv : rightV v = true) (hw : rightV w = true) (h : nameV v = nameV w) : v = w := by
  rw [← viewN_name hv, ← viewN_name hw, h]
theorem bookS_look {s : PState} (h : sortK keyVB s.books) (v : PView) : bookS s v = ((lookK keyVB s.books (nameV v)).map (·.book)).getD [] := by
  unfold bookS
  rcases hasK_at h (nameV v) with ⟨x, hx, hk, hh⟩ | ⟨_, hh⟩
  · rw [hx, hh, ← hk, (look_mem h).1 (List.mem_of_getElem? hx)]
    simp
  · have e : lookK keyVB s.books (nameV v) = none := look_none.2 fun x hx hk => by
      have : hasK keyVB s.books (nameV v) = true := by rw [hasK, List.any_eq_true]; exact ⟨x, hx, by simpa using hk⟩
      rw [hh] at this; simp at this
    rw [e, hh]
    split <;> simp
theorem cellsS_look {s : PState} (h : sortK keyVC s.cells) (v : PView) : cellsS s v = ((lookK keyVC s.cells (nameV v)).map (·.cells)).getD [] := by
  unfold cellsS
  rcases hasK_at h (nameV v) with ⟨x, hx, hk, hh⟩ | ⟨_, hh⟩
  · rw [hx, hh, ← hk, (look_mem h).1 (List.mem_of_getElem? hx)]
    simp
  · have e : lookK keyVC s.cells (nameV v) = none := look_none.2 fun x hx hk => by
      have : hasK keyVC s.cells (nameV v) = true := by rw [hasK, List.any_eq_true]; exact ⟨x, hx, by simpa using hk⟩
      rw [hh] at this; simp at this
    rw [e, hh]
    split <;> simp
theorem intentS_look {s : PState} (h : sortK keyVI s.intents) (v : PView) : intentS s v = (lookK keyVI s.intents (nameV v)).map (·.change) := by
  unfold intentS
  rcases hasK_at h (nameV v) with ⟨x, hx, hk, hh⟩ | ⟨_, hh⟩
  · rw [hx, hh, ← hk, (look_mem h).1 (List.mem_of_getElem? hx)]
    simp
  · have e : lookK keyVI s.intents (nameV v) = none := look_none.2 fun x hx hk => by
      have : hasK keyVI s.intents (nameV v) = true := by rw [hasK, List.any_eq_true]; exact ⟨x, hx, by simpa using hk⟩
      rw [hh] at this; simp at this
    rw [e, hh]
    split <;> simp
/-! ### behind a record -/
theorem apply_books (s : PState) (r : PRec) (n : Int) : lookK keyVB (applyS s r).books n = if r.kind = 1 ∧ nameV r.view = n then some ⟨r.view, mergeE (bookS s r.view) [r.entry]⟩ else lookK keyVB s.books n := by
  unfold applyS
  by_cases h1 : r.kind = 1
  · simp only [h1, if_true, true_and]
    rw [look_put]
    rfl
  · have : ¬ (r.kind = 1 ∧ nameV r.view = n) := fun h => h1 h.1
    rw [if_neg this]
    simp only [h1, if_false]
    repeat' split
    all_goals rfl
theorem apply_cells (s : PState) (r : PRec) (n : Int) : lookK keyVC (applyS s r).cells n = if r.kind = 2 ∧ nameV r.view = n then some ⟨r.view, mergeS (cellsS s r.view) [r.cell]⟩ else lookK keyVC s.cells n := by
  unfold applyS
  by_cases h1 : r.kind = 2
  · have h2 : ¬ r.kind = 1 := by omega
    simp only [h1, h2, if_true, true_and, if_false]
    rw [if_neg (by omega), look_put]
    rfl
  · have : ¬ (r.kind = 2 ∧ nameV r.view = n) := fun h => h1 h.1
    rw [if_neg this]
    simp only [h1, if_false]
    repeat' split
    all_goals rfl
theorem apply_intents (s : PState) (r : PRec) (n : Int) : lookK keyVI (applyS s r).intents n = if r.kind = 5 ∧ (intentS s r.view).isSome = false ∧ nameV r.view = n then some ⟨r.view, r.cell.change⟩ else lookK keyVI s.intents n := by
  unfold applyS
  by_cases h1 : r.kind = 5
  · have h2 : ¬ r.kind = 1 := by omega
    have h3 : ¬ r.kind = 2 := by omega
    have h4 : ¬ r.kind = 3 := by omega
    have h5 : ¬ r.kind = 4 := by omega
    rw [if_neg h2, if_neg h3, if_neg h4, if_neg h5, if_pos h1]
    cases ho : (intentS s r.view).isSome
    · simp only [h1, true_and, Bool.false_eq_true, if_false]
      rw [look_put]
      rfl
    · simp
  · have : ¬ (r.kind = 5 ∧ (intentS s r.view).isSome = false ∧ nameV r.view = n) := fun h => h1 h.1
    rw [if_neg this]
    simp only [h1, if_false]
    repeat' split
    all_goals rfl
theorem apply_held (s : PState) (r : PRec) : (applyS s r).held = if r.kind = 3 ∧ withinV s.held r.view = true then r.view else s.held := by
  unfold applyS
  by_cases h1 : r.kind = 3
  · rw [if_neg (by omega), if_neg (by omega), if_pos h1]
    by_cases h2 : withinV s.held r.view = true
    · rw [if_pos h2, if_pos ⟨h1, h2⟩]
    · rw [if_neg h2, if_neg (fun h => h2 h.2)]
  · have : ¬ (r.kind = 3 ∧ withinV s.held r.view = true) := fun h => h1 h.1
    rw [if_neg this]
    simp only [h1, if_false]
    repeat' split
    all_goals rfl
theorem apply_last (s : PState) (r : PRec) : (applyS s r).last = if r.kind = 4 then max s.last r.n else s.last := by
  unfold applyS
  by_cases h1 : r.kind = 4
  · rw [if_neg (by omega), if_neg (by omega), if_neg (by omega), if_pos h1, if_pos h1]
  · rw [if_neg h1]
    simp only [h1, if_false]
    repeat' split
    all_goals rfl
theorem apply_inc (s : PState) (r : PRec) : (applyS s r).inc = if r.kind = 6 then max s.inc r.n else s.inc := by
  unfold applyS
  by_cases h1 : r.kind = 6
  · rw [if_neg (by omega), if_neg (by omega), if_neg (by omega), if_neg (by omega), if_neg (by omega), if_pos h1, if_pos h1]
  · rw [if_neg h1]
    simp only [h1, if_false]
    repeat' split
    all_goals rfl
theorem bookS_apply {n : Nat} {s : PState} (h : OkN n s) {r : PRec} (hr : rightR r = true) {v : PView} (hv : rightV v = true) : bookS (applyS s r) v = if r.kind = 1 ∧ r.view = v then mergeE (bookS s v) [r.entry] else bookS s v := by
  rw [bookS_look (okN_apply h hr).sb, apply_books, bookS_look h.sb v]
  by_cases h1 : r.kind = 1 ∧ r.view = v
  · obtain ⟨h1, rfl⟩ := h1
    rw [if_pos ⟨h1, rfl⟩, if_pos ⟨h1, rfl⟩, bookS_look h.sb]
    rfl
  · rw [if_neg h1, if_neg (fun h2 => h1 ⟨h2.1, name_inj (right_cell hr).1 hv h2.2⟩)]
theorem cellsS_apply {n : Nat} {s : PState} (h : OkN n s) {r : PRec} (hr : rightR r = true) {v : PView} (hv : rightV v = true) : cellsS (applyS s r) v = if r.kind = 2 ∧ r.view = v then mergeC (cellsS s v) [r.cell] else cellsS s v := by
  rw [cellsS_look (okN_apply h hr).sc, apply_cells, cellsS_look h.sc v]
  by_cases h1 : r.kind = 2 ∧ r.view = v
  · obtain ⟨h1, rfl⟩ := h1
    rw [if_pos ⟨h1, rfl⟩, if_pos ⟨h1, rfl⟩, mergeS_eq (h.cells r.view) (okCs_one (right_cell hr).2), cellsS_look h.sc]
    rfl
  · rw [if_neg h1, if_neg (fun h2 => h1 ⟨h2.1, name_inj (right_cell hr).1 hv h2.2⟩)]
theorem intentS_apply {n : Nat} {s : PState} (h : OkN n s) {r : PRec} (hr : rightR r = true) {v : PView} (hv : rightV v = true) : intentS (applyS s r) v = if r.kind = 5 ∧ r.view = v ∧ intentS s v = none then some r.cell.change else intentS s v := by
  rw [intentS_look (okN_apply h hr).si, apply_intents]
  by_cases h1 : r.kind = 5 ∧ r.view = v ∧ intentS s v = none
  · obtain ⟨h1, rfl, h2⟩ := h1
    rw [if_pos ⟨h1, by rw [h2]; rfl, rfl⟩, if_pos ⟨h1, rfl, h2⟩]
    rfl
  · rw [if_neg h1, if_neg, intentS_look h.si]
    rintro ⟨h2, h3, h4⟩
    have h5 := name_inj (right_cell hr).1 hv h4
    exact h1 ⟨h2, h5, by rw [h5] at h3; simpa using h3⟩
end Go.Proofs.YtjbbfiagijjdoaaGreat

/- Plain laws: records there and back. No condition. -/
set_option linter.unusedSimpArgs false
set_option linter.unusedVariables false
namespace Go.Proofs.YtjbbfiagijjdoaaGreat
open Go Go.Rw Go.Proofs

theorem bitsF_zero : bitsF 0 = 0 := by decide
theorem bitsF_is_zero {b : Nat} (h : bitsF b = 0) : b = 0 := by
  unfold bitsF cleanB at h
  split at h
  · simp at h
  · exact h
theorem sameE_iff (x y : PEntry) : sameE x y = true ↔ x.key = y.key ∧ x.tag = y.tag ∧ bitsF x.value = bitsF y.value := by
  simp [sameE, and_assoc]
theorem sameR_iff (a b : PRec) : sameR a b = true ↔ a.kind = b.kind ∧ a.view = b.view ∧ a.cell = b.cell ∧ a.n = b.n ∧ sameE a.entry b.entry = true := by
  obtain ⟨k, ⟨v1, v2⟩, ⟨c, ⟨c1, c2⟩⟩, e, n⟩ := a
  obtain ⟨k', ⟨v1', v2'⟩, ⟨c', ⟨c1', c2'⟩⟩, e', n'⟩ := b
  simp [sameR, and_assoc]
theorem sameE_zero (x : PEntry) : sameE x zE = true ↔ x = zE := by
  obtain ⟨k, ⟨t1, t2⟩, v⟩ := x
  simp only [sameE_iff, zE, PEntry.mk.injEq, PTag.mk.injEq, bitsF_zero]
  constructor
  · rintro ⟨h1, h2, h3⟩; exact ⟨h1, h2, bitsF_is_zero h3⟩
  · rintro ⟨h1, h2, rfl⟩; exact ⟨h1, h2, bitsF_zero⟩
/-- its value's bits in one form -/
def cleanR (r : PRec) : PRec := { r with entry := cleanE bitsF r.entry }
inductive RightR (r : PRec) : Prop
  | value (v : PView) (e : PEntry) (h : r = ⟨1, v, zC, e, 0⟩) (hv : rightV v = true) (h1 : 0 ≤ e.key) (h2 : e.key < 4) (h3 : rightT e.tag = true) (h4 : e.tag.num ≠ 0)
  | cell (v : PView) (c : PCell) (h : r = ⟨2, v, c, zE, 0⟩) (hv : rightV v = true) (h1 : 0 ≤ c.node) (h2 : c.node < 6) (h3 : rightV c.change = true) (h4 : 0 < sizeV c.change)
  | mark (v : PView) (h : r = ⟨3, v, zC, zE, 0⟩) (hv : rightV v = true)
  | num (k n : Int) (h : r = ⟨k, zV, zC, zE, n⟩) (hk : k = 4 ∨ k = 6) (h1 : 1 ≤ n) (h2 : n ≤ 1000000)
  | intent (v u : PView) (h : r = ⟨5, v, ⟨0, u⟩, zE, 0⟩) (hv : rightV v = true) (hu : rightV u = true) (h4 : 0 < sizeV u)
theorem rightR_of {r : PRec} (h : rightR r = true) : RightR r := by
  obtain ⟨k, v, ⟨cn, cc⟩, e, n⟩ := r
  simp only [rightR, Bool.and_eq_true, decide_eq_true_eq, sameR_iff] at h
  obtain ⟨⟨⟨⟨⟨hk, hs⟩, hv⟩, hc⟩, hn⟩, hx⟩ := h
  by_cases k1 : k = 1
  · subst k1
    simp only [bareR, if_true, true_and] at hs hx
    obtain ⟨hs1, hs2, _⟩ := hs
    have := okE_of (show okE (-1) e = true by simpa [checkE] using hx)
    exact .value v e (by rw [hs1, hs2]) hv (by omega) this.2.1 this.2.2.1 this.2.2.2
  by_cases k2 : k = 2
  · subst k2
    simp [bareR, sameE_zero] at hs hx
    obtain ⟨rfl, rfl⟩ := hs
    exact .cell v _ rfl hv hn.1 hn.2 hc hx
  by_cases k5 : k = 5
  · subst k5
    simp [bareR, sameE_zero] at hs hx
    obtain ⟨rfl, rfl, rfl⟩ := hs
    exact .intent v _ rfl hv hc hx
  by_cases k3 : k = 3
  · subst k3
    simp [bareR, sameE_zero] at hs hx
    obtain ⟨hs1, rfl, rfl⟩ := hs
    exact .mark v (by rw [hs1]) hv
  have k46 : k = 4 ∨ k = 6 := by omega
  have hb : bareR ⟨k, v, ⟨cn, cc⟩, e, n⟩ = ⟨k, zV, zC, zE, n⟩ := by unfold bareR; simp [k1, k2, k3, k5, k46]
  rw [hb] at hs
  simp [sameE_zero] at hs
  obtain ⟨rfl, hs1, rfl⟩ := hs
  simp [k1, k2, k5, k46] at hx
  exact .num k n (by rw [hs1]) k46 hx.1 hx.2
theorem rightV_zero : rightV zV = true := by decide
end Go.Proofs.YtjbbfiagijjdoaaGreat

/- Plain: books and cells grow; states whose books and cells can be. No condition. -/
set_option linter.unusedSimpArgs false
set_option linter.unusedVariables false
set_option maxRecDepth 10000
namespace Go.Proofs.YtjbbfiagijjdoaaGreat
open Go Go.Rw Go.Proofs

/-! ### tags -/
theorem lessT_iff (a b : PTag) : lessT a b = true ↔ a.num < b.num ∨ (a.num = b.num ∧ a.node < b.node) := by
  rw [lessT_eq]
  by_cases h : a.num = b.num
  · simp [h]
  · simp [h]
theorem lessT_no (a b : PTag) : lessT a b = false ↔ ¬ (a.num < b.num ∨ (a.num = b.num ∧ a.node < b.node)) := by
  rw [← lessT_iff]; simp
theorem newer_rightT (x y : PEntry) : lessT (newerE x y).tag y.tag = false := by
  unfold newerE
  cases h : lessT x.tag y.tag
  · simp [h]
  · simp [lessT_self]
/-! ### books -/
def keyE (x : PEntry) : Int := x.key
/-- a book that can be -/
def okB (b : List PEntry) : Prop := sortK keyE b ∧ ∀ x ∈ b, 0 ≤ x.key ∧ x.key < 4 ∧ rightT x.tag = true ∧ 0 < x.tag.num
theorem checkE_iff : ∀ (b : List PEntry) (last : Int), checkE last b = true ↔ sortK keyE b ∧ ∀ x ∈ b, last < x.key ∧ x.key < 4 ∧ rightT x.tag = true ∧ ¬ x.tag.num = 0
  | [], last => by simp [checkE, sortK]
  | y :: b, last => by
    rw [checkE, Bool.and_eq_true, checkE_iff b y.key]
    unfold sortK
    rw [List.pairwise_cons]
    constructor
    · rintro ⟨h1, h2, h3⟩
      have h4 := okE_of h1
      refine ⟨⟨fun x hx => (h3 x hx).1, h2⟩, fun x hx => ?_⟩
      rcases List.mem_cons.1 hx with rfl | hx
      · exact h4
      · have := h3 x hx; exact ⟨by have := h4.1; omega, this.2⟩
    · rintro ⟨⟨h1, h2⟩, h3⟩
      have h4 := h3 y (by simp)
      exact ⟨okE_5 _ _ (by omega) (by omega) h4.2.2.1 h4.2.2.2, h2, fun x hx => ⟨h1 x hx, (h3 x (by simp [hx])).2⟩⟩
theorem rightT_num {t : PTag} (h : rightT t = true) : 0 ≤ t.num := by simp [rightT] at h; exact h.1.1
theorem okB_iff (b : List PEntry) : checkE (-1) b = true ↔ okB b := by
  rw [checkE_iff]
  unfold okB
  refine and_congr Iff.rfl ⟨fun h x hx => ?_, fun h x hx => ?_⟩
  · obtain ⟨h1, h2, h3, h4⟩ := h x hx
    have := rightT_num h3
    exact ⟨by omega, h2, h3, by omega⟩
  · obtain ⟨h1, h2, h3, h4⟩ := h x hx
    exact ⟨by omega, h2, h3, by omega⟩
theorem okB_nil : okB [] := ⟨List.Pairwise.nil, fun x hx => by simp at hx⟩
theorem findE_look (b : List PEntry) (k : Int) : findE b k = (lookK keyE b k).getD ⟨k, ⟨0, 0⟩, 0⟩ := rfl
theorem findE_key (b : List PEntry) (k : Int) : (findE b k).key = k := by
  rw [findE_look]
  cases h : lookK keyE b k with
  | none => rfl
  | some x => exact (look_some h).2
theorem newer_key {x y : PEntry} {k : Int} (hx : x.key = k) (hy : y.key = k) : (newerE x y).key = k := by unfold newerE; split <;> assumption
theorem mergeE1_mem {a b : List PEntry} {k : Int} {x : PEntry} : x ∈ mergeE1 a b k ↔ x.key = k ∧ x = newerE (findE a k) (findE b k) ∧ 0 < x.tag.num := by
  unfold mergeE1
  have hk := newer_key (findE_key a k) (findE_key b k)
  generalize newerE (findE a k) (findE b k) = e at *
  by_cases h : 0 < e.tag.num
  · rw [if_pos h, List.mem_singleton]
    constructor
    · rintro rfl; exact ⟨hk, rfl, h⟩
    · exact fun h => h.2.1
  · rw [if_neg h]
    constructor
    · intro h1; simp at h1
    · rintro ⟨_, rfl, h2⟩; exact absurd h2 h
theorem mergeK_mem {a b : List PEntry} {m : Nat} {x : PEntry} : x ∈ mergeK a b m ↔ (0 ≤ x.key ∧ x.key < m) ∧ x = newerE (findE a x.key) (findE b x.key) ∧ 0 < x.tag.num := by
  induction m with
  | zero => simp [mergeK]; omega
  | succ k ih =>
    rw [mergeK, List.mem_append, ih, mergeE1_mem]
    constructor
    · rintro (⟨⟨h1, h2⟩, h3⟩ | ⟨h1, h2, h3⟩)
      · exact ⟨⟨h1, by omega⟩, h3⟩
      · exact ⟨⟨by omega, by omega⟩, by rw [h1]; exact h2, h3⟩
    · rintro ⟨⟨h1, h2⟩, h3, h4⟩
      by_cases h : x.key < k
      · exact .inl ⟨⟨h1, h⟩, h3, h4⟩
      · have e : x.key = (k : Int) := by omega
        exact .inr ⟨e, by rw [← e]; exact h3, h4⟩
theorem mergeK_sorted (a b : List PEntry) (m : Nat) : sortK keyE (mergeK a b m) := by
  unfold sortK
  induction m with
  | zero => simp [mergeK]
  | succ k ih =>
    rw [mergeK, List.pairwise_append]
    refine ⟨ih, ?_, fun x hx y hy => ?_⟩
    · have := mergeE1_le a b k
      match h : mergeE1 a b k with
      | [] => simp
      | [_] => simp
      | _ :: _ :: _ => rw [h] at this; simp at this
    · have h1 := (mergeK_mem.1 hx).1
      have h2 := (mergeE1_mem.1 hy).1
      unfold keyE
      omega
theorem okB_merge {a b : List PEntry} (ha : ∀ x ∈ a, rightT x.tag = true) (hb : ∀ x ∈ b, rightT x.tag = true) : okB (mergeE a b) := by
  refine ⟨mergeK_sorted a b 4, fun x hx => ?_⟩
  obtain ⟨⟨h1, h2⟩, h3, h4⟩ := mergeK_mem.1 hx
  refine ⟨h1, h2, ?_, h4⟩
  rw [h3]
  exact newer_right (findE_right ha) (findE_right hb)
theorem okB.right {b : List PEntry} (h : okB b) : ∀ x ∈ b, rightT x.tag = true := fun x hx => (h.2 x hx).2.2.1
theorem findE_ok {b : List PEntry} (h : okB b) (k : Int) : findE b k = ⟨k, ⟨0, 0⟩, 0⟩ ∨ (0 ≤ k ∧ k < 4 ∧ 0 < (findE b k).tag.num ∧ lookK keyE b k = some (findE b k)) := by
  rw [findE_look]
  cases e : lookK keyE b k with
  | none => exact .inl rfl
  | some x =>
    obtain ⟨h1, h2⟩ := look_some e
    obtain ⟨h3, h4, _, h5⟩ := h.2 x h1
    unfold keyE at h2
    exact .inr ⟨by omega, by omega, h5, rfl⟩
theorem findE_merge {a b : List PEntry} (ha : okB a) (hb : okB b) (k : Int) : findE (mergeE a b) k = newerE (findE a k) (findE b k) := by
  have hk := newer_key (findE_key a k) (findE_key b k)
  have hn : newerE (findE a k) (findE b k) = ⟨k, ⟨0, 0⟩, 0⟩ ∨ (0 ≤ k ∧ k < 4 ∧ 0 < (newerE (findE a k) (findE b k)).tag.num) := by
    unfold newerE
    split
    · rcases findE_ok hb k with h | ⟨h1, h2, h3, _⟩
      · exact .inl h
      · exact .inr ⟨h1, h2, h3⟩
    · rcases findE_ok ha k with h | ⟨h1, h2, h3, _⟩
      · exact .inl h
      · exact .inr ⟨h1, h2, h3⟩
  rcases hn with h | ⟨h1, h2, h3⟩
  · rw [h, findE_look, look_none.2]
    · rfl
    · intro x hx hxk
      obtain ⟨_, h4, h5⟩ := mergeK_mem.1 hx
      unfold keyE at hxk
      rw [hxk] at h4
      rw [h4, h] at h5
      simp at h5
  · have hm : newerE (findE a k) (findE b k) ∈ mergeE a b := mergeK_mem.2 ⟨by rw [hk]; exact ⟨h1, by omega⟩, by rw [hk], h3⟩
    have := (look_mem (mergeK_sorted a b 4)).1 hm
    rw [show keyE (newerE (findE a k) (findE b k)) = k from hk] at this
    rw [findE_look, mergeE, this]
    rfl
theorem findE_one (e : PEntry) (k : Int) : findE [e] k = if e.key = k then e else ⟨k, ⟨0, 0⟩, 0⟩ := by
  unfold findE
  by_cases h : e.key = k
  · simp [h]
  · simp [h]
/-! ### cells -/
theorem ofC_merge {a b : List PCell} (ha : okCs a) (hb : okCs b) (n : Int) : ofC (mergeC a b) n = if (ofC a n).isSome then ofC a n else ofC b n := by
  have hm := okCs_merge a b
  cases h : ofC (mergeC a b) n with
  | some v =>
    obtain ⟨_, h2 | ⟨h2, h3⟩⟩ := mergeCK_mem.1 (ofC_some h)
    · simp only at h2; rw [h2]; simp
    · simp only at h2 h3; rw [h2, h3]; simp
  | none =>
    cases h1 : ofC a n with
    | some v =>
      have hin := ha.2 _ (ofC_some h1)
      exact absurd rfl (ofC_none.1 h ⟨n, v⟩ (mergeCK_mem.2 ⟨hin, .inl h1⟩))
    | none =>
      cases h2 : ofC b n with
      | some v =>
        have hin := hb.2 _ (ofC_some h2)
        exact absurd rfl (ofC_none.1 h ⟨n, v⟩ (mergeCK_mem.2 ⟨hin, .inr ⟨h1, h2⟩⟩))
      | none => simp
theorem ofC_one (c : PCell) (n : Int) : ofC [c] n = if c.node = n then some c.change else none := by
  unfold ofC
  by_cases h : c.node = n
  · simp [h]
  · simp [h]
/-- cells whose changes can be -/
def okCh (l : List PCell) : Prop := okCs l ∧ ∀ c ∈ l, rightV c.change = true ∧ ¬ sizeV c.change = 0
theorem checkC_iff : ∀ (b : List PCell) (last : Int), checkC last b = true ↔ b.Pairwise (fun x y => x.node < y.node) ∧ ∀ x ∈ b, last < x.node ∧ x.node < 6 ∧ rightV x.change = true ∧ ¬ sizeV x.change = 0
  | [], last => by simp [checkC]
  | y :: b, last => by
    rw [checkC, Bool.and_eq_true, checkC_iff b y.node, List.pairwise_cons]
    constructor
    · rintro ⟨h1, h2, h3⟩
      have h4 : last < y.node ∧ y.node < 6 ∧ rightV y.change = true ∧ ¬ sizeV y.change = 0 := by simpa [okC, and_assoc] using h1
      refine ⟨⟨fun x hx => (h3 x hx).1, h2⟩, fun x hx => ?_⟩
      rcases List.mem_cons.1 hx with rfl | hx
      · exact h4
      · have := h3 x hx; exact ⟨by have := h4.1; omega, this.2⟩
    · rintro ⟨⟨h1, h2⟩, h3⟩
      have h4 := h3 y (by simp)
      exact ⟨by simpa [okC, and_assoc] using h4, h2, fun x hx => ⟨h1 x hx, (h3 x (by simp [hx])).2⟩⟩
theorem okCh_iff (b : List PCell) : checkC (-1) b = true ↔ okCh b := by
  rw [checkC_iff]
  unfold okCh okCs
  constructor
  · rintro ⟨h1, h2⟩
    exact ⟨⟨h1, fun x hx => by have := h2 x hx; omega⟩, fun x hx => (h2 x hx).2.2⟩
  · rintro ⟨⟨h1, h2⟩, h3⟩
    exact ⟨h1, fun x hx => by have := h2 x hx; exact ⟨by omega, by omega, h3 x hx⟩⟩
theorem okCh_merge {a b : List PCell} (ha : okCh a) (hb : okCh b) : okCh (mergeC a b) := by
  refine ⟨okCs_merge a b, fun c hc => ?_⟩
  obtain ⟨_, h | ⟨_, h⟩⟩ := mergeCK_mem.1 hc
  · exact ha.2 _ (ofC_some h)
  · exact hb.2 _ (ofC_some h)
/-! ### states -/
/-- a state whose books and cells can be -/
structure OkT (n : Nat) (s : PState) : Prop extends OkN n s where
  bk : ∀ x ∈ s.books, okB x.book
  ck : ∀ x ∈ s.cells, okCh x.cells
theorem OkT.bookOk {n : Nat} {s : PState} (h : OkT n s) (v : PView) : okB (bookS s v) := by
  rw [bookS_look h.sb]
  cases e : lookK keyVB s.books (nameV v) with
  | none => exact okB_nil
  | some x => exact h.bk x (look_some e).1
theorem OkT.cellsOk {n : Nat} {s : PState} (h : OkT n s) (v : PView) : okCh (cellsS s v) := by
  rw [cellsS_look h.sc]
  cases e : lookK keyVC s.cells (nameV v) with
  | none => exact ⟨okCs_nil, fun x hx => by simp at hx⟩
  | some x => exact h.ck x (look_some e).1
theorem RightR.entry {r : PRec} (h : RightR r) (hk : r.kind = 1) : okB [r.entry] := by
  cases h with
  | value v e h hv h1 h2 h3 h4 =>
    subst h
    refine ⟨by simp [sortK], fun x hx => ?_⟩
    simp at hx; subst hx
    have := rightT_num h3
    exact ⟨h1, h2, h3, by omega⟩
  | cell v c h => subst h; simp at hk
  | mark v h => subst h; simp at hk
  | num k n h hk' => subst h; simp only at hk; omega
  | intent v u h => subst h; simp at hk
theorem RightR.ccell {r : PRec} (h : RightR r) (hk : r.kind = 2) : okCh [r.cell] := by
  cases h with
  | value v e h => subst h; simp at hk
  | cell v c h hv h1 h2 h3 h4 =>
    subst h
    refine ⟨okCs_one ⟨h1, h2⟩, fun x hx => ?_⟩
    simp at hx; subst hx
    exact ⟨h3, by omega⟩
  | mark v h => subst h; simp at hk
  | num k n h hk' => subst h; simp only at hk; omega
  | intent v u h => subst h; simp at hk
theorem okT_apply {n : Nat} {s : PState} (h : OkT n s) {r : PRec} (hr : rightR r = true) : OkT (n + 1) (applyS s r) := by
  have hn := okN_apply h.toOkN hr
  refine ⟨hn, fun x hx => ?_, fun x hx => ?_⟩
  · rw [look_mem hn.sb, apply_books] at hx
    split at hx
    · rename_i hk
      obtain rfl := Option.some.inj hx
      exact okB_merge (h.bookOk r.view).right ((rightR_of hr).entry hk.1).right
    · exact h.bk x (look_some hx).1
  · rw [look_mem hn.sc, apply_cells] at hx
    split at hx
    · rename_i hk
      obtain rfl := Option.some.inj hx
      show okCh (mergeS _ _)
      rw [mergeS_eq (h.cells r.view) (okCs_one (right_cell hr).2)]
      exact okCh_merge (h.cellsOk r.view) ((rightR_of hr).ccell hk.1)
    · exact h.ck x (look_some hx).1
theorem okT_new {v : PView} (h : rightV v = true) : OkT 0 (newS v) := ⟨okN_new h, fun x hx => by simp [newS] at hx, fun x hx => by simp [newS] at hx⟩
theorem okT_fold {v : PView} (hv : rightV v = true) {l : List PRec} (hl : ∀ r ∈ l, rightR r = true) (k : Nat) (hk : k ≤ l.length) : OkT k (foldS v (l.take k)) := by
  induction k with
  | zero => simpa [foldS] using okT_new hv
  | succ k ih =>
    have hx : l[k]? = some l[k] := List.getElem?_eq_getElem (by omega)
    rw [foldS_step hx]
    exact okT_apply (ih (by omega)) (hl _ (List.mem_of_getElem? hx))
theorem OkT.mono {n m : Nat} {s : PState} (h : OkT n s) (hn : n ≤ m) : OkT m s := ⟨h.toOkN.mono hn, h.bk, h.ck⟩
end Go.Proofs.YtjbbfiagijjdoaaGreat

/- Plain: what a node answers, and what is there behind it. No condition. -/
set_option linter.unusedSimpArgs false
set_option linter.unusedVariables false
set_option maxRecDepth 10000
namespace Go.Proofs.YtjbbfiagijjdoaaGreat
open Go Go.Rw Go.Proofs

/-- the answer's head -/
def ansM (me : Int) (q : PMsg) : PMsg := ⟨7, me, q.frm, q.inc, q.seq, q.view, [], []⟩
def servable (me : Int) (q : PMsg) : Bool := decide (q.to = me) && decide (0 ≤ q.kind ∧ q.kind ≤ 4)
def recC (v : PView) (c : PCell) : PRec := ⟨2, v, c, zE, 0⟩
def recE (v : PView) (x : PEntry) : PRec := ⟨1, v, zC, x, 0⟩
def recV (v : PView) : PRec := ⟨3, v, zC, zE, 0⟩
/-- what is to be written -/
def wroteS (s : PState) (q : PMsg) : List PRec :=
  if q.kind = 1 then (newsC (cellsS s q.view) q.cells).map (recC q.view)
  else if q.kind = 3 then (newsE (bookS s q.view) q.book).map (recE q.view)
  else if q.kind = 4 then (if ¬ s.held = q.view ∧ withinV s.held q.view = true then [recV q.view] else [])
  else []
/-- what is answered -/
def tellS (me : Int) (s : PState) (q : PMsg) : PMsg :=
  if q.kind = 0 then { ansM me q with kind := 5, cells := cellsS s q.view }
  else if q.kind = 2 then { ansM me q with kind := 6, book := bookS s q.view }
  else ansM me q
def recsS (me : Int) (s : PState) (q : PMsg) : List PRec := if servable me q = true then wroteS s q else []
def answerS (me : Int) (s : PState) (q : PMsg) : PMsg := if servable me q = true then tellS me s q else zM

theorem samesE (l : List PEntry) : sameEs l l = true := by
  induction l with
  | nil => rfl
  | cons x l ih => simp [sameEs, sameE, ih]
section
variable {q : PMsg}
theorem RightQ.cells (h : rightM q = true) : okCh q.cells := by
  simp only [rightM, Bool.and_eq_true, betweenB, decide_eq_true_eq] at h
  exact (okCh_iff _).1 h.1.2
theorem RightQ.book (h : rightM q = true) : okB q.book := by
  simp only [rightM, Bool.and_eq_true, betweenB, decide_eq_true_eq] at h
  exact (okB_iff _).1 h.2
end
/-! ### behind what was written -/
/-- the state behind what was written -/
def behindS (s : PState) (q : PMsg) : PState := (wroteS s q).foldl applyS s
section
variable {n : Nat} {s : PState} {q : PMsg}
end
end Go.Proofs.YtjbbfiagijjdoaaGreat

/- Contracts: are two states the same? No condition. -/
set_option linter.unusedSimpArgs false
set_option linter.unusedVariables false
set_option maxRecDepth 10000
namespace Go.Proofs.YtjbbfiagijjdoaaGreat
open Go Go.Rw Go.Proofs
-- a goal is never to be run by the elaborator
attribute [local irreducible] awp aops aop aopsE aeff

def EqiI (a b : List PVI) (t : Nat → AV) (_ : Nat → Option (List AV)) : Prop := ∃ k : Nat, t 0 = .sl .no (rowsVI a) ∧ t 1 = .sl .no (rowsVI b) ∧ t 12 = .v (.int .i64 a.length) ∧ t 13 = .v (.int .i64 k) ∧ k ≤ a.length ∧ a.take k = b.take k
theorem viEq {x y : PVI} : x = y ↔ x.view.add = y.view.add ∧ x.view.del = y.view.del ∧ x.change.add = y.change.add ∧ x.change.del = y.change.del := by
  obtain ⟨⟨a1, d1⟩, ⟨c1, e1⟩⟩ := x
  obtain ⟨⟨a2, d2⟩, ⟨c2, e2⟩⟩ := y
  simp [and_assoc]
instance : DecidableEq PVI := fun x y => decidable_of_iff _ viEq.symm
theorem equal_intents (a b : List PVI) : ASpec Tryz.prog 125 [.sl .no (rowsVI a), .sl .no (rowsVI b)] (· = .v (.bool (decide (a = b)))) := by
  refine ASpec.of_awp Tryz.func125 (by kernel_rfl) rfl (by rw [Tryz.results125]) Tryz.ntmps125 ?_
  simp -implicitDefEqProofs
  intro h1 h2
  refine branch_dec (fun hb => ?_) (fun hb => ?_)
  · have hl : a.length = b.length := by omega
    simp -implicitDefEqProofs
    intro _
    refine loopK.intro (EqiI a b) (fun t => a.length - natOf (t 13)) ?_ ?_
    · exact ⟨0, by simp, by simp, by simp, by simp, by omega, by simp⟩
    rintro t hh ⟨k, g0, g1, g12, g13, hk, he⟩
    simp -implicitDefEqProofs [g12, g13]
    refine branch_dec (fun hlt => ?_) (fun hlt => ?_)
    · have hlt : k < a.length := by omega
      have hlt2 : k < b.length := by omega
      obtain ⟨x, hx⟩ : ∃ x, a[k]? = some x := ⟨a[k], by simp [hlt]⟩
      obtain ⟨y, hy⟩ : ∃ y, b[k]? = some y := ⟨b[k], by simp [hlt2]⟩
      have hj1 : IntKind.i64.wrap ((k : Int) + 1) = (k : Int) + 1 := w64 (by omega) (by omega)
      simp -implicitDefEqProofs [g13]
      refine regionK.intro 9 follows_mixed (by kernel_rfl) ?_
      simp -implicitDefEqProofs [g0, g1, g13, hx, hy, eVI]
      refine branch_intro (fun hb2 => ?_) (fun hb2 => ?_)
      · have hne : x ≠ y := by rintro rfl; simp at hb2
        simp -implicitDefEqProofs
        rintro rfl
        rw [hx] at hy
        exact hne (Option.some.inj hy)
      · have hxy : x = y := by
          rw [viEq]
          simp at hb2
          simp [hb2]
        simp -implicitDefEqProofs [g13, hj1]
        refine ⟨⟨k + 1, by simp [g0], by simp [g1], by simp [g12], by simp, by omega, ?_⟩, by omega⟩
        rw [List.take_add_one, List.take_add_one, he, hx, hy, hxy]
    · have hk' : k = a.length := by omega
      subst hk'
      simp -implicitDefEqProofs
      rw [List.take_length, hl, List.take_length] at he
      exact he
  · simp -implicitDefEqProofs
    rintro rfl; simp at hb
/-- the same state -/
def sameSt (a b : PState) : Bool := sameVBs a.books b.books && (sameVCs a.cells b.cells && (decide (a.intents = b.intents) && (decide (a.held = b.held) && (decide (a.inc = b.inc) && decide (a.last = b.last)))))
theorem foldsame_spec (a b : PState) : ASpec Tryz.prog 64 [.agg (eSt a), .agg (eSt b)] (· = .v (.bool (sameSt a b))) := by
  refine ASpec.of_awp Tryz.func64 (by kernel_rfl) rfl (by rw [Tryz.results64]) Tryz.ntmps64 ?_
  simp -implicitDefEqProofs [eSt]
  refine allocK.intro (fun b1 hb1 => ?_)
  simp -implicitDefEqProofs
  refine allocK.intro (fun b2 hb2 => ?_)
  have n12 : ¬ b1 = b2 := by rintro rfl; simp at hb2
  have n21 : ¬ b2 = b1 := fun h => n12 h.symm
  simp -implicitDefEqProofs [n12, n21]
  refine CallK.with (equalfVB_spec a.books b.books) (by simp [rowsVB]) ?_
  simp -implicitDefEqProofs [n12, n21]
  refine CallK.with (equalfVC_spec a.cells b.cells) (by simp [rowsVC]) ?_
  unfold sameSt
  cases h1 : sameVBs a.books b.books
  · simp -implicitDefEqProofs [n12, n21]
  cases h2 : sameVCs a.cells b.cells
  · simp -implicitDefEqProofs [n12, n21]
  simp -implicitDefEqProofs [n12, n21]
  refine CallK.with (equal_intents a.intents b.intents) (by simp [rowsVI]) ?_
  by_cases h3 : a.intents = b.intents
  · by_cases h4 : a.held.add = b.held.add
    · by_cases h5 : a.held.del = b.held.del
      · have hh : a.held = b.held := by cases hx : a.held; cases hy : b.held; simp_all
        by_cases h6 : a.inc = b.inc
        · by_cases h7 : a.last = b.last
          · simp -implicitDefEqProofs [n12, n21, h3, h4, h5, h6, h7, hh]
          · simp -implicitDefEqProofs [n12, n21, h3, h4, h5, h6, h7, hh]
        · simp -implicitDefEqProofs [n12, n21, h3, h4, h5, h6, hh]
      · have hh : ¬ a.held = b.held := fun h => h5 (by rw [h])
        have h5' : (a.held.del == b.held.del) = false := by simpa using h5
        simp -implicitDefEqProofs [n12, n21, h3, h4, h5, h5', hh]
    · have hh : ¬ a.held = b.held := fun h => h4 (by rw [h])
      have h4' : (a.held.add == b.held.add) = false := by simpa using h4
      simp -implicitDefEqProofs [n12, n21, h3, h4, h4', hh]
  · simp -implicitDefEqProofs [n12, n21, h3]
theorem sameVBs_self (l : List PVB) : sameVBs l l = true := by
  induction l with
  | nil => rfl
  | cons x l ih => simp [sameVBs, sameVB, samesE, ih]
theorem sameVCs_self (l : List PVC) : sameVCs l l = true := by
  induction l with
  | nil => rfl
  | cons x l ih => simp [sameVCs, sameVC, ih]
theorem sameSt_self (s : PState) : sameSt s s = true := by
  unfold sameSt
  rw [sameVBs_self, sameVCs_self]
  simp
end Go.Proofs.YtjbbfiagijjdoaaGreat

/- Contract: a state's copy has memory of its own. No condition. -/
set_option linter.unusedSimpArgs false
set_option linter.unusedVariables false
set_option maxRecDepth 10000
namespace Go.Proofs.YtjbbfiagijjdoaaGreat
open Go Go.Rw Go.Proofs
-- a goal is never to be run by the elaborator
attribute [local irreducible] awp aops aop aopsE aeff

def itB (x : PVB) : GItem := ⟨.int .i64 x.view.add, .int .i64 x.view.del, eEs x.book⟩
def itC (x : PVC) : GItem := ⟨.int .i64 x.view.add, .int .i64 x.view.del, eCs x.cells⟩
theorem rowsB_it (l : List PVB) : rowsVB l = (l.map itB).map GItem.row := by simp [rowsVB, eVB, itB, GItem.row, eI]
theorem rowsC_it (l : List PVC) : rowsVC l = (l.map itC).map GItem.row := by simp [rowsVC, eVC, itC, GItem.row, eI]
theorem cloneE_m (l : List PEntry) (hl : l.length * 32 ≤ 140737488355328) : MSpec Tryz.prog 90 [.sl .no (eEs l)] (fun _ => none) (OwnM (eEs l) 4) := by
  refine MSpec.own (e := 46) (clone_entries_new l hl) (eEs_one l) (fun h r hr => ?_) (fun h r hr => ?_)
  · rcases hr with ⟨_, tag, _, rfl⟩ | ⟨h', _⟩
    · exact ⟨_, rfl⟩
    · exact absurd h h'
  · rcases hr with ⟨h', _⟩ | ⟨_, rfl⟩
    · exact absurd h' h
    · rfl
theorem cloneC_m (l : List PCell) (hl : l.length * 24 ≤ 140737488355328) : MSpec Tryz.prog 95 [.sl .no (eCs l)] (fun _ => none) (OwnM (eCs l) 3) := by
  refine MSpec.own (e := 48) (clone_cells_new l hl) (eCs_one l) (fun h r hr => ?_) (fun h r hr => ?_)
  · rcases hr with ⟨_, tag, _, rfl⟩ | ⟨h', _⟩
    · exact ⟨_, rfl⟩
    · exact absurd h h'
  · rcases hr with ⟨h', _⟩ | ⟨_, rfl⟩
    · exact absurd h' h
    · rfl
theorem cloneVB_m (l : List PVB) (hl : l.length * 40 ≤ 140737488355328) : MSpec Tryz.prog 126 [.sl .no (rowsVB l)] (fun _ => none) (OwnM (rowsVB l) 3) := by
  refine MSpec.own (e := 89) (cloneVB_own l hl) (rowsVB_one l) (fun h r hr => ?_) (fun h r hr => ?_)
  · rcases hr with ⟨tag, _, rfl, _⟩ | ⟨h', _⟩
    · exact ⟨_, rfl⟩
    · exact absurd h h'
  · rcases hr with ⟨tag, _, rfl, h'⟩ | ⟨_, rfl⟩
    · exact absurd (by rw [h']; rfl) h
    · rfl
theorem cloneVC_m (l : List PVC) (hl : l.length * 40 ≤ 140737488355328) : MSpec Tryz.prog 127 [.sl .no (rowsVC l)] (fun _ => none) (OwnM (rowsVC l) 3) := by
  refine MSpec.own (e := 91) (cloneVC_own l hl) (rowsVC_one l) (fun h r hr => ?_) (fun h r hr => ?_)
  · rcases hr with ⟨tag, _, rfl, _⟩ | ⟨h', _⟩
    · exact ⟨_, rfl⟩
    · exact absurd h h'
  · rcases hr with ⟨tag, _, rfl, h'⟩ | ⟨_, rfl⟩
    · exact absurd (by rw [h']; rfl) h
    · rfl
theorem cloneVI_m (l : List PVI) (hl : l.length * 32 ≤ 140737488355328) : MSpec Tryz.prog 128 [.sl .no (rowsVI l)] (fun _ => none) (OwnM (rowsVI l) 4) := by
  refine MSpec.own (e := 93) (cloneVI_own l hl) (rowsVI_one l) (fun h r hr => ?_) (fun h r hr => ?_)
  · rcases hr with ⟨tag, _, rfl, _⟩ | ⟨h', _⟩
    · exact ⟨_, rfl⟩
    · exact absurd h h'
  · rcases hr with ⟨tag, _, rfl, h'⟩ | ⟨_, rfl⟩
    · exact absurd (by rw [h']; rfl) h
    · rfl
theorem lay_one (cells : List AV) (i : Nat) (x : AV) (h : i < cells.length) : cells.take i ++ x :: cells.drop (i + 1) = cells.set i x := by
  rw [List.set_eq_take_append_cons_drop, if_pos h]
/-- behind a copy: what its lists are, up to some places -/
structure CpD (s : PState) (XB XC XI : AV) (κ : Nat → Nat) (h : Nat → Option (List AV)) (m n : Nat) : Prop where
  b : DeepG κ h 1 2 4 XB (s.books.map itB) m
  c : DeepG κ h 3 4 3 XC (s.cells.map itC) n
  i : OwnAt κ 5 (rowsVI s.intents) 4 XI h
def CpB (s : PState) (b1 b2 m n : Nat) (t : Nat → AV) (h : Nat → Option (List AV)) : Prop := ∃ XB XC XI κ, t 1 = .ptr b1 0 ∧ t 2 = .ptr b2 0 ∧ h b1 = some [XB, XC, XI, eI s.held.add, eI s.held.del, eI s.inc, eI s.last] ∧ h b2 = some [.sl .nil [], .sl .nil [], .sl .nil [], eI 0, eI 0, eI 0, eI 0] ∧ κ b1 = 0 ∧ κ b2 = 0 ∧ CpD s XB XC XI κ h m n
def CpL (s : PState) (b1 b2 m n tl tk N k : Nat) (t : Nat → AV) (h : Nat → Option (List AV)) : Prop := CpB s b1 b2 m n t h ∧ t tl = eI N ∧ t tk = eI k ∧ k ≤ N
def CpR (s : PState) (r : AV) (h : Nat → Option (List AV)) : Prop := ∃ XB XC XI κ, r = .agg [XB, XC, XI, eI s.held.add, eI s.held.del, eI s.inc, eI s.last] ∧ CpD s XB XC XI κ h s.books.length s.cells.length
theorem cp_froz {s : PState} {XB XC XI : AV} {κ : Nat → Nat} {h : Nat → Option (List AV)} (hD : CpD s XB XC XI κ h s.books.length s.cells.length) :
    FrozL h [XB, XC, XI, eI s.held.add, eI s.held.del, eI s.inc, eI s.last] (eSt s) := by
  have f1 : Froz h XB (.sl .no (s.books.map eVB)) := by
    have hb := hD.b
    rw [show s.books.length = (s.books.map itB).length by simp] at hb
    have := hb.froz (fun x hx => ?_) (fun x hx => ?_) (fun x hx => ?_)
    · rwa [← rowsB_it] at this
    · obtain ⟨y, _, rfl⟩ := List.mem_map.1 hx; exact eEs_one y.book
    · obtain ⟨y, _, rfl⟩ := List.mem_map.1 hx
      intro r hr z hz
      obtain ⟨c, _, rfl⟩ := List.mem_map.1 hr
      simp [eE] at hz
      rcases hz with rfl | rfl | rfl | rfl <;> exact ⟨rfl, rfl⟩
    · obtain ⟨y, _, rfl⟩ := List.mem_map.1 hx; exact ⟨rfl, rfl⟩
  have f2 : Froz h XC (.sl .no (s.cells.map eVC)) := by
    have hb := hD.c
    rw [show s.cells.length = (s.cells.map itC).length by simp] at hb
    have := hb.froz (fun x hx => ?_) (fun x hx => ?_) (fun x hx => ?_)
    · rwa [← rowsC_it] at this
    · obtain ⟨y, _, rfl⟩ := List.mem_map.1 hx; exact eCs_one y.cells
    · obtain ⟨y, _, rfl⟩ := List.mem_map.1 hx
      intro r hr z hz
      obtain ⟨c, _, rfl⟩ := List.mem_map.1 hr
      simp [eC] at hz
      rcases hz with rfl | rfl | rfl <;> exact ⟨rfl, rfl⟩
    · obtain ⟨y, _, rfl⟩ := List.mem_map.1 hx; exact ⟨rfl, rfl⟩
  have f3 : Froz h XI (.sl .no (s.intents.map eVI)) := by
    refine hD.i.froz (rowsVI_one _) fun r hr z hz => ?_
    obtain ⟨c, _, rfl⟩ := List.mem_map.1 hr
    simp [eVI] at hz
    rcases hz with rfl | rfl | rfl | rfl <;> exact ⟨rfl, rfl⟩
  exact .cons f1 (.cons f2 (.cons f3 (.same _)))
theorem copySt_own (s : PState) (hs : OkS s) : MSpec Tryz.prog 65 [.agg (eSt s)] (fun _ => none) (CpR s) := by
  refine MSpec.of_awp Tryz.func65 (by kernel_rfl) rfl (by rw [Tryz.results65]) Tryz.ntmps65 ?_
  simp -implicitDefEqProofs [eSt]
  refine allocK.intro (fun b1 hb1 => ?_)
  simp -implicitDefEqProofs
  refine allocK.intro (fun b2 hb2 => ?_)
  have n12 : ¬ b1 = b2 := by rintro rfl; simp at hb2
  have n21 : ¬ b2 = b1 := fun h => n12 h.symm
  simp -implicitDefEqProofs [n12, n21]
  refine regionK.cut (CpB s b1 b2 0 0) ?_ ?_
  · refine regionK.order [] [0, 1, 3, 4, 6, 7, 2, 9, 5, 8, 10, 11, 12, 13, 14] [.q, .q, .q, .q, .q, .q, .l, .q, .l, .l, .s, .q, .s, .q, .s] follows_mixed (by kernel_rfl) rfl ?_
    simp -implicitDefEqProofs [pickL, n12, n21]
    have l1 := hs.lb
    have l2 := hs.lc
    have l3 := hs.li
    refine LoudK.mh (cloneVB_m s.books (by omega)) (by simp [rowsVB]) (fun _ _ => rfl) (fun _ _ h => by simp at h) ?_
    rintro r1 h1 H1 hr1 hk1 hn1 hf1
    have g1 : H1 b1 = some [.sl .no (rowsVB s.books), .sl .no (rowsVC s.cells), .sl .no (rowsVI s.intents), eI s.held.add, eI s.held.del, eI s.inc, eI s.last] := hk1 b1 _ rfl (by simp [n12, rowsVB, rowsVC, rowsVI])
    have g2 : H1 b2 = some [.sl .nil [], .sl .nil [], .sl .nil [], eI 0, eI 0, eI 0, eI 0] := hk1 b2 _ rfl (by simp [n21])
    have d1 : dead1 r1 = r1 := hr1.v.dead
    simp -implicitDefEqProofs [n12, n21, g1, g2, d1]
    refine LoudK.mh (cloneVC_m s.cells (by omega)) (by simp [rowsVC]) (fun _ _ => rfl) (fun _ _ h => by simp at h) ?_
    rintro r2 h2 H2 hr2 hk2 hn2 hf2
    have d2 : dead1 r2 = r2 := hr2.v.dead
    simp -implicitDefEqProofs [n12, n21, g1, g2, d1, d2]
    refine LoudK.mh (cloneVI_m s.intents (by omega)) (by simp [rowsVI]) (fun _ _ => rfl) (fun _ _ h => by simp at h) ?_
    rintro r3 h3 H3 hr3 hk3 hn3 hf3
    have d3 : dead1 r3 = r3 := hr3.v.dead
    have g1 : H3 b1 = some [.sl .no (rowsVB s.books), .sl .no (rowsVC s.cells), .sl .no (rowsVI s.intents), eI s.held.add, eI s.held.del, eI s.inc, eI s.last] := hk3 b1 _ rfl (hk2 b1 _ rfl g1)
    have g2 : H3 b2 = some [.sl .nil [], .sl .nil [], .sl .nil [], eI 0, eI 0, eI 0, eI 0] := hk3 b2 _ rfl (hk2 b2 _ rfl g2)
    simp -implicitDefEqProofs [n12, n21, g1, g2, d1, d2, d3]
    refine storeK.own hr1.v (by simp) ?_
    simp -implicitDefEqProofs [n12, n21, g1, g2, d1, d2, d3]
    refine storeK.own hr2.v (by simp) ?_
    simp -implicitDefEqProofs [n12, n21, g1, g2, d1, d2, d3]
    refine storeK.own hr3.v (by simp) ?_
    simp -implicitDefEqProofs [n12, n21, g1, g2, d1, d2, d3]
    have e1 : ∀ b c, h1 b = some c → H3 b = some c := fun b c h => hk3 b c rfl (hk2 b c rfl (hn1 b c h))
    have e2 : ∀ b c, h2 b = some c → H3 b = some c ∧ h1 b = none := fun b c h => ⟨hk3 b c rfl (hn2 b c h), by
      cases hq : h1 b with
      | none => rfl
      | some q => have := hf2 b c h rfl; have h9 := hn1 b q hq; simp only at this; rw [h9] at this; simp at this⟩
    have e3 : ∀ b c, h3 b = some c → H3 b = some c ∧ h1 b = none ∧ h2 b = none := fun b c h => by
      have h0 := hf3 b c h rfl
      simp only at h0
      refine ⟨hn3 b c h, ?_, ?_⟩
      · cases hq : h1 b with
        | none => rfl
        | some q => have h9 := hk2 b q rfl (hn1 b q hq); rw [h9] at h0; simp at h0
      · cases hq : h2 b with
        | none => rfl
        | some q => have h9 := hn2 b q hq; rw [h9] at h0; simp at h0
    have f1 : h1 b1 = none ∧ h2 b1 = none ∧ h3 b1 = none := by
      refine ⟨?_, ?_, ?_⟩
      · cases hq : h1 b1 with
        | none => rfl
        | some q => have h0 := hf1 b1 q hq rfl; simp [n12] at h0
      · cases hq : h2 b1 with
        | none => rfl
        | some q => have h0 := hf2 b1 q hq rfl; have h9 := hk1 b1 _ rfl (by simp [n12]; rfl); simp only at h0; rw [h9] at h0; simp at h0
      · cases hq : h3 b1 with
        | none => rfl
        | some q => have h0 := hf3 b1 q hq rfl; have h9 := hk2 b1 _ rfl (hk1 b1 _ rfl (by simp [n12]; rfl)); simp only at h0; rw [h9] at h0; simp at h0
    have f2 : h1 b2 = none ∧ h2 b2 = none ∧ h3 b2 = none := by
      refine ⟨?_, ?_, ?_⟩
      · cases hq : h1 b2 with
        | none => rfl
        | some q => have h0 := hf1 b2 q hq rfl; simp [n21] at h0
      · cases hq : h2 b2 with
        | none => rfl
        | some q => have h0 := hf2 b2 q hq rfl; have h9 := hk1 b2 _ rfl (by simp [n21]; rfl); simp only at h0; rw [h9] at h0; simp at h0
      · cases hq : h3 b2 with
        | none => rfl
        | some q => have h0 := hf3 b2 q hq rfl; have h9 := hk2 b2 _ rfl (hk1 b2 _ rfl (by simp [n21]; rfl)); simp only at h0; rw [h9] at h0; simp at h0
    have ne1 : ∀ b c, (h1 b = some c ∨ h2 b = some c ∨ h3 b = some c) → ¬ b = b1 := by
      rintro b c h rfl
      rw [f1.1, f1.2.1, f1.2.2] at h; simp at h
    refine ⟨r1, r2, r3, fun b => if (h1 b).isSome then 1 else if (h2 b).isSome then 3 else if (h3 b).isSome then 5 else 0, by simp, by simp, by simp, by simp [n21, g2], by simp [f1], by simp [f2], ?_, ?_, ?_⟩
    · rw [rowsB_it] at hr1
      refine DeepG.start (hr1.at fun b c h => ⟨?_, by simp [h]⟩)
      have := ne1 b c (.inl h)
      simp [upd, this, e1 b c h]
    · rw [rowsC_it] at hr2
      refine DeepG.start (hr2.at fun b c h => ⟨?_, by simp [h, (e2 b c h).2]⟩)
      have := ne1 b c (.inr (.inl h))
      simp [upd, this, (e2 b c h).1]
    · refine hr3.at fun b c h => ⟨?_, by simp [h, (e3 b c h).2]⟩
      have := ne1 b c (.inr (.inr h))
      simp [upd, this, (e3 b c h).1]
  clear hb1 hb2
  rintro t h hC
  refine awp_cutK (CpB s b1 b2 s.books.length 0) ?_ ?_
  · obtain ⟨XB, XC, XI, κ, ht1, ht2, g1, g2, k1, k2, hD⟩ := hC
    rcases hD.b with ⟨h0, rfl⟩ | ⟨bb, cap, cells, rfl, q2, q3, q4, q5, q6⟩
    · have h0 : s.books = [] := by simpa using h0
      simp -implicitDefEqProofs [ht1, ht2, g1]
      refine loopK.intro (fun t h' => CpB s b1 b2 0 0 t h' ∧ t 19 = eI 0 ∧ t 20 = eI 0) (fun t => 0) ⟨⟨_, XC, XI, κ, by simp [ht1], by simp [ht2], g1, g2, k1, k2, hD⟩, by simp, by simp⟩ ?_
      rintro t h ⟨hB, h19, h20⟩
      simp -implicitDefEqProofs [h19, h20]
      rw [h0]; exact hB
    · simp -implicitDefEqProofs [ht1, ht2, g1]
      intro _
      refine loopK.intro (fun t h => ∃ k, CpL s b1 b2 k 0 19 20 s.books.length k t h) (fun t => s.books.length - natOf (t 20)) ⟨0, ⟨_, XC, XI, κ, by simp [ht1], by simp [ht2], g1, g2, k1, k2, hD⟩, by simp, by simp, by omega⟩ ?_
      clear hD ht1 ht2 g1 g2 k1 k2 q2 q3 q4 q5 q6
      rintro t h ⟨k, ⟨XB, XC, XI, κ, ht1, ht2, g1, g2, k1, k2, hD⟩, h19, h20, hk⟩
      simp -implicitDefEqProofs [h19, h20]
      refine branch_dec (fun hlt => ?_) (fun hlt => ?_)
      · have hlt : k < s.books.length := by omega
        have hbn : s.books ≠ [] := by rintro h; rw [h] at hlt; simp at hlt
        rcases hD.b with ⟨h0, _⟩ | ⟨bb, cap, cells, rfl, q2, q3, q4, q5, q6⟩
        · exact absurd (by simpa using h0) hbn
        obtain ⟨x, hx⟩ : ∃ x, s.books[k]? = some x := ⟨s.books[k], by simp [hlt]⟩
        have hit : (s.books.map itB)[k]? = some (itB x) := by simp [hx]
        obtain ⟨e1, e2, Y, e3, e4⟩ := q6 k _ hit
        have e5 : Y = .sl .no (eEs x.book) := by
          rcases e4 with ⟨_, e4⟩ | ⟨e4, _⟩
          · exact e4
          · omega
        subst e5
        have hxl := hs.bl x (List.mem_of_getElem? hx)
        have n1 : ¬ bb = b1 := by rintro rfl; rw [q2] at k1; simp at k1
        have n2 : ¬ b1 = bb := fun h => n1 h.symm
        have hj1 : IntKind.i64.wrap ((k : Int) + 1) = (k : Int) + 1 := w64 (by have := hs.lb; omega) (by have := hs.lb; omega)
        simp -implicitDefEqProofs [h20]
        refine regionK.modes [bb] [.q, .q, .q, .q, .q, .q, .q, .q, .r, .l, .q, .q, .s] follows_mixed (by kernel_rfl) ?_
        simp -implicitDefEqProofs [ht1, h20, g1, maskH, n1, n2, hlt, q3, e3]
        refine LoudK.mh (cloneE_m x.book (by omega)) rfl (fun _ _ => rfl) (fun _ _ h => by simp at h) ?_
        rintro r h' H hr hkp hnw hfr
        have d := hr.v.dead
        have g1' := hkp b1 _ rfl g1
        have g2' := hkp b2 _ rfl g2
        have q3' := hkp bb _ rfl q3
        simp -implicitDefEqProofs [ht1, h20, g1', maskH, n1, n2, hlt, q3', d]
        refine storeK.own hr.v (by simp) ?_
        simp -implicitDefEqProofs [q3']
        have q4' : s.books.length ≤ cap := by simpa using q4
        refine ⟨by omega, ?_⟩
        simp -implicitDefEqProofs [h20, hj1]
        have hns : ∀ b c, h' b = some c → h b = none ∧ ¬ b = bb := fun b c hb => by
          have h0 := hfr b c hb rfl
          refine ⟨h0, ?_⟩
          rintro rfl
          simp only at h0
          rw [q3] at h0; simp at h0
        refine ⟨⟨k + 1, ⟨.sm bb 0 (s.books.map itB).length cap, XC, XI, fun b => if (h b).isSome then κ b else 2, by simp [ht1], by simp [ht2], by simp [n2, g1'], by simp [(show ¬ b2 = bb by rintro rfl; rw [q2] at k2; simp at k2), g2'], by simp [g1, k1], by simp [g2, k2], ?_, ?_, ?_⟩, by simp [h19], by simp, by omega⟩, by omega⟩
        · refine DeepG.step (by omega) hit hD.b q3 (fun b' c n hb hk => ⟨by simp [upd, n, hkp b' c rfl hb], by simp [hb, hk]⟩) (by simp only [upd, if_true]; rw [lay_one _ _ _ (by omega)]) (by simp [q3, q2]) (hr.at fun b c hb => ⟨?_, by simp [(hns b c hb).1]⟩)
          simp [upd, (hns b c hb).2, hnw b c hb]
        · refine hD.c.frame fun b c hb hk => ⟨?_, by simp [hb]⟩
          have : ¬ b = bb := by rintro rfl; omega
          simp [upd, this, hkp b c rfl hb]
        · refine hD.i.frame fun b c hb hk => ⟨?_, by simp [hb, hk]⟩
          have : ¬ b = bb := by rintro rfl; omega
          simp [upd, this, hkp b c rfl hb]
      · have hkn : k = s.books.length := by omega
        subst hkn
        simp -implicitDefEqProofs [h19, h20]
        exact ⟨XB, XC, XI, κ, by simp [ht1], by simp [ht2], g1, g2, k1, k2, hD⟩
  clear hC
  rintro t h hC
  refine awp_cutK (CpB s b1 b2 s.books.length s.cells.length) ?_ ?_
  · obtain ⟨XB, XC, XI, κ, ht1, ht2, g1, g2, k1, k2, hD⟩ := hC
    rcases hD.c with ⟨h0, rfl⟩ | ⟨bb, cap, cells, rfl, q2, q3, q4, q5, q6⟩
    · have h0 : s.cells = [] := by simpa using h0
      simp -implicitDefEqProofs [ht1, ht2, g1]
      refine loopK.intro (fun t h' => CpB s b1 b2 s.books.length 0 t h' ∧ t 38 = eI 0 ∧ t 39 = eI 0) (fun t => 0) ⟨⟨XB, _, XI, κ, by simp [ht1], by simp [ht2], g1, g2, k1, k2, hD⟩, by simp, by simp⟩ ?_
      rintro t h ⟨hB, h38, h39⟩
      simp -implicitDefEqProofs [h38, h39]
      rw [h0]; exact hB
    · simp -implicitDefEqProofs [ht1, ht2, g1]
      intro _
      refine loopK.intro (fun t h => ∃ k, CpL s b1 b2 s.books.length k 38 39 s.cells.length k t h) (fun t => s.cells.length - natOf (t 39)) ⟨0, ⟨XB, _, XI, κ, by simp [ht1], by simp [ht2], g1, g2, k1, k2, hD⟩, by simp, by simp, by omega⟩ ?_
      clear hD ht1 ht2 g1 g2 k1 k2 q2 q3 q4 q5 q6
      rintro t h ⟨k, ⟨XB, XC, XI, κ, ht1, ht2, g1, g2, k1, k2, hD⟩, h38, h39, hk⟩
      simp -implicitDefEqProofs [h38, h39]
      refine branch_dec (fun hlt => ?_) (fun hlt => ?_)
      · have hlt : k < s.cells.length := by omega
        have hbn : s.cells ≠ [] := by rintro h; rw [h] at hlt; simp at hlt
        rcases hD.c with ⟨h0, _⟩ | ⟨bb, cap, cells, rfl, q2, q3, q4, q5, q6⟩
        · exact absurd (by simpa using h0) hbn
        obtain ⟨x, hx⟩ : ∃ x, s.cells[k]? = some x := ⟨s.cells[k], by simp [hlt]⟩
        have hit : (s.cells.map itC)[k]? = some (itC x) := by simp [hx]
        obtain ⟨e1, e2, Y, e3, e4⟩ := q6 k _ hit
        have e5 : Y = .sl .no (eCs x.cells) := by
          rcases e4 with ⟨_, e4⟩ | ⟨e4, _⟩
          · exact e4
          · omega
        subst e5
        have hxl := hs.cl x (List.mem_of_getElem? hx)
        have n1 : ¬ bb = b1 := by rintro rfl; rw [q2] at k1; simp at k1
        have n2 : ¬ b1 = bb := fun h => n1 h.symm
        have hj1 : IntKind.i64.wrap ((k : Int) + 1) = (k : Int) + 1 := w64 (by have := hs.lc; omega) (by have := hs.lc; omega)
        simp -implicitDefEqProofs [h39]
        refine regionK.modes [bb] [.q, .q, .q, .q, .q, .q, .q, .q, .r, .l, .q, .q, .s] follows_mixed (by kernel_rfl) ?_
        simp -implicitDefEqProofs [ht1, h39, g1, maskH, n1, n2, hlt, q3, e3]
        refine LoudK.mh (cloneC_m x.cells (by omega)) rfl (fun _ _ => rfl) (fun _ _ h => by simp at h) ?_
        rintro r h' H hr hkp hnw hfr
        have d := hr.v.dead
        have g1' := hkp b1 _ rfl g1
        have g2' := hkp b2 _ rfl g2
        have q3' := hkp bb _ rfl q3
        simp -implicitDefEqProofs [ht1, h39, g1', maskH, n1, n2, hlt, q3', d]
        refine storeK.own hr.v (by simp) ?_
        simp -implicitDefEqProofs [q3']
        have q4' : s.cells.length ≤ cap := by simpa using q4
        refine ⟨by omega, ?_⟩
        simp -implicitDefEqProofs [h39, hj1]
        have hns : ∀ b c, h' b = some c → h b = none ∧ ¬ b = bb := fun b c hb => by
          have h0 := hfr b c hb rfl
          refine ⟨h0, ?_⟩
          rintro rfl
          simp only at h0
          rw [q3] at h0; simp at h0
        refine ⟨⟨k + 1, ⟨XB, .sm bb 0 (s.cells.map itC).length cap, XI, fun b => if (h b).isSome then κ b else 4, by simp [ht1], by simp [ht2], by simp [n2, g1'], by simp [(show ¬ b2 = bb by rintro rfl; rw [q2] at k2; simp at k2), g2'], by simp [g1, k1], by simp [g2, k2], ?_, ?_, ?_⟩, by simp [h38], by simp, by omega⟩, by omega⟩
        · refine hD.b.frame fun b c hb hk => ⟨?_, by simp [hb]⟩
          have : ¬ b = bb := by rintro rfl; omega
          simp [upd, this, hkp b c rfl hb]
        · refine DeepG.step (by omega) hit hD.c q3 (fun b' c n hb hk => ⟨by simp [upd, n, hkp b' c rfl hb], by simp [hb, hk]⟩) (by simp only [upd, if_true]; rw [lay_one _ _ _ (by omega)]) (by simp [q3, q2]) (hr.at fun b c hb => ⟨?_, by simp [(hns b c hb).1]⟩)
          simp [upd, (hns b c hb).2, hnw b c hb]
        · refine hD.i.frame fun b c hb hk => ⟨?_, by simp [hb, hk]⟩
          have : ¬ b = bb := by rintro rfl; omega
          simp [upd, this, hkp b c rfl hb]
      · have hkn : k = s.cells.length := by omega
        subst hkn
        simp -implicitDefEqProofs [h38, h39]
        exact ⟨XB, XC, XI, κ, by simp [ht1], by simp [ht2], g1, g2, k1, k2, hD⟩
  clear hC
  rintro t h ⟨XB, XC, XI, κ, ht1, ht2, g1, g2, k1, k2, hD⟩
  have sub : SubH (fun b => if κ b = 0 then none else h b) (upd h b2 (some [XB, XC, XI, eI s.held.add, eI s.held.del, eI s.inc, eI s.last])) := by
    refine SubH.of fun b c hb => ?_
    by_cases hk : κ b = 0
    · simp [hk] at hb
    · have : ¬ b = b2 := by rintro rfl; exact hk k2
      simp only [hk, if_false] at hb
      simp [upd, this, hb]
  have fin : CpR s (.agg [XB, XC, XI, eI s.held.add, eI s.held.del, eI s.inc, eI s.last]) (fun b => if κ b = 0 then none else h b) := by
    refine ⟨XB, XC, XI, κ, rfl, hD.b.frame fun b c hb hk => ?_, hD.c.frame fun b c hb hk => ?_, hD.i.frame fun b c hb hk => ?_⟩
    · have : ¬ κ b = 0 := by omega
      simp [this, hb]
    · have : ¬ κ b = 0 := by omega
      simp [this, hb]
    · have : ¬ κ b = 0 := by omega
      simp [this, hb, hk]
  have vB := hD.b.v
  have vC := hD.c.v
  have vI := hD.i.v
  clear hD
  rcases vB with rfl | ⟨_, _, _, _, rfl⟩ <;> rcases vC with rfl | ⟨_, _, _, _, rfl⟩ <;> rcases vI with rfl | ⟨_, _, _, _, rfl⟩
  all_goals
    simp -implicitDefEqProofs [ht1, ht2, g1, g2, n12, n21]
    exact ⟨_, sub, fin⟩
end Go.Proofs.YtjbbfiagijjdoaaGreat

/- Contracts: the document's books, cells and intents out of all records. No condition. -/
set_option linter.unusedSimpArgs false
set_option linter.unusedVariables false
set_option maxRecDepth 10000
namespace Go.Proofs.YtjbbfiagijjdoaaGreat
open Go Go.Rw Go.Proofs
-- a goal is never to be run by the elaborator
attribute [local irreducible] awp aops aop aopsE aeff

def bookL (l : List PRec) (v : PView) : List PEntry := l.foldl (fun b r => if r.kind = 1 ∧ r.view = v then mergeD b [r.entry] else b) []
def cellsL (l : List PRec) (v : PView) : List PCell := l.foldl (fun b r => if r.kind = 2 ∧ r.view = v then mergeC b [r.cell] else b) []
def intentL (l : List PRec) (v : PView) : Option PView := (l.find? fun r => decide (r.kind = 5 ∧ r.view = v)).map (·.cell.change)
theorem bookL_step {l : List PRec} {k : Nat} {r : PRec} {v : PView} (h : l[k]? = some r) : bookL (l.take (k + 1)) v = if r.kind = 1 ∧ r.view = v then mergeD (bookL (l.take k) v) [r.entry] else bookL (l.take k) v := by
  unfold bookL
  rw [List.take_add_one, h, List.foldl_append]; rfl
theorem cellsL_step {l : List PRec} {k : Nat} {r : PRec} {v : PView} (h : l[k]? = some r) : cellsL (l.take (k + 1)) v = if r.kind = 2 ∧ r.view = v then mergeC (cellsL (l.take k) v) [r.cell] else cellsL (l.take k) v := by
  unfold cellsL
  rw [List.take_add_one, h, List.foldl_append]; rfl
theorem view_eq {a b : PView} : a = b ↔ a.add = b.add ∧ a.del = b.del := by cases a; cases b; simp
def BlI (l : List PRec) (v : PView) (b1 : Nat) (t : Nat → AV) (h : Nat → Option (List AV)) : Prop := ∃ (k : Nat) (tag : Tag), t 3 = .ptr b1 0 ∧ t 5 = .sl tag (eEs (bookL (l.take k) v)) ∧ t 9 = .sl .no (eRs l) ∧ t 10 = eI l.length ∧ t 11 = eI k ∧ k ≤ l.length ∧ h b1 = some (eV v)
def BlM (l : List PRec) (v : PView) (t : Nat → AV) (h : Nat → Option (List AV)) : Prop := ∃ tag : Tag, t 5 = .sl tag (eEs (bookL l v))
theorem book12_spec (l : List PRec) (v : PView) (hl : l.length ≤ 1000000000) : ASpec Tryz.prog 38 [.sl .no (eRs l), .agg (eV v)] (fun r => ∃ tag, r = .sl tag (eEs (bookL l v))) := by
  refine ASpec.of_awp Tryz.func38 (by kernel_rfl) rfl (by rw [Tryz.results38]) Tryz.ntmps38 ?_
  simp -implicitDefEqProofs [eV]
  refine allocK.intro (fun b1 hb1 => ?_)
  simp -implicitDefEqProofs
  refine bsK.std ?_
  simp -implicitDefEqProofs
  intro _
  refine loopK.post (BlI l v b1) (fun t => l.length - natOf (t 11)) (BlM l v) ?_ ?_ ?_
  · exact ⟨0, _, by simp, by simp [bookL]; rfl, by simp, by simp, by simp, by omega, by simp [eV]⟩
  · rintro t hh ⟨k, tag, g3, g5, g9, g10, g11, hk, e3⟩
    by_cases hlt : k < l.length
    · have hlt' : (k : Int) < (l.length : Int) := by omega
      have hw : IntKind.i64.wrap ((k : Int) + 1) = ((k + 1 : Nat) : Int) := by rw [w64 (by omega) (by omega)]; omega
      obtain ⟨r, hx⟩ : ∃ r, l[k]? = some r := ⟨l[k], by simp [hlt]⟩
      have hst := bookL_step (v := v) hx
      simp -implicitDefEqProofs [g9, g10, g11, hlt', hx, eRc]
      refine allocK.intro (fun b2 hb2 => ?_)
      have n12 : ¬ b1 = b2 := by rintro rfl; rw [e3] at hb2; simp at hb2
      have n21 : ¬ b2 = b1 := fun h => n12 h.symm
      have e3' := e3
      rw [eV] at e3'
      by_cases h1 : r.kind = 1
      · by_cases h2 : r.view.add = v.add
        · by_cases h3 : r.view.del = v.del
          · rw [if_pos ⟨h1, view_eq.2 ⟨h2, h3⟩⟩] at hst
            have hm := merge7_spec (bookL (l.take k) v) [r.entry]
            generalize bookL (l.take k) v = cur at *
            simp -implicitDefEqProofs [g3, e3', n12, n21, h1, h2, h3, g5]
            refine CallK.via hm (by simp [eEs, eE]) ?_
            rintro _ ⟨tag2, rfl⟩
            simp -implicitDefEqProofs [g11, hw]
            exact ⟨⟨k + 1, _, by simp [g3], by rw [hst]; simp; rfl, by simp [g9], by simp [g10], by simp, by omega, by simp [n12, n21, e3]⟩, by omega⟩
          · rw [if_neg (fun h => h3 (view_eq.1 h.2).2)] at hst
            have h3' : (r.view.del == v.del) = false := by simpa using h3
            simp -implicitDefEqProofs [g3, e3', n12, n21, h1, h2, h3, h3', g11, hw]
            exact ⟨⟨k + 1, tag, by simp [g3], by rw [hst]; simp [g5], by simp [g9], by simp [g10], by simp, by omega, by simp [n12, n21, e3]⟩, by omega⟩
        · rw [if_neg (fun h => h2 (view_eq.1 h.2).1)] at hst
          have h2' : (r.view.add == v.add) = false := by simpa using h2
          simp -implicitDefEqProofs [g3, e3', n12, n21, h1, h2, h2', g11, hw]
          exact ⟨⟨k + 1, tag, by simp [g3], by rw [hst]; simp [g5], by simp [g9], by simp [g10], by simp, by omega, by simp [n12, n21, e3]⟩, by omega⟩
      · rw [if_neg (fun h => h1 h.1)] at hst
        simp -implicitDefEqProofs [g3, n12, n21, h1, g11, hw]
        exact ⟨⟨k + 1, tag, by simp [g3], by rw [hst]; simp [g5], by simp [g9], by simp [g10], by simp, by omega, by simp [n12, n21, e3]⟩, by omega⟩
    · have hlt' : ¬ (k : Int) < (l.length : Int) := by omega
      rw [List.take_of_length_le (by omega)] at g5
      simp -implicitDefEqProofs [g10, g11, hlt']
      exact ⟨tag, by simp [g5]⟩
  rintro t hh ⟨tag, g5⟩
  simp -implicitDefEqProofs [g5]
def ClI (l : List PRec) (v : PView) (b1 : Nat) (t : Nat → AV) (h : Nat → Option (List AV)) : Prop := ∃ (k : Nat) (tag : Tag), t 3 = .ptr b1 0 ∧ t 5 = .sl tag (eCs (cellsL (l.take k) v)) ∧ t 9 = .sl .no (eRs l) ∧ t 10 = eI l.length ∧ t 11 = eI k ∧ k ≤ l.length ∧ h b1 = some (eV v)
def ClM (l : List PRec) (v : PView) (t : Nat → AV) (h : Nat → Option (List AV)) : Prop := ∃ tag : Tag, t 5 = .sl tag (eCs (cellsL l v))
theorem cells12_spec (l : List PRec) (v : PView) (hl : l.length ≤ 1000000000) : ASpec Tryz.prog 41 [.sl .no (eRs l), .agg (eV v)] (fun r => ∃ tag, r = .sl tag (eCs (cellsL l v))) := by
  refine ASpec.of_awp Tryz.func41 (by kernel_rfl) rfl (by rw [Tryz.results41]) Tryz.ntmps41 ?_
  simp -implicitDefEqProofs [eV]
  refine allocK.intro (fun b1 hb1 => ?_)
  simp -implicitDefEqProofs
  refine bsK.std ?_
  simp -implicitDefEqProofs
  intro _
  refine loopK.post (ClI l v b1) (fun t => l.length - natOf (t 11)) (ClM l v) ?_ ?_ ?_
  · exact ⟨0, _, by simp, by simp [cellsL]; rfl, by simp, by simp, by simp, by omega, by simp [eV]⟩
  · rintro t hh ⟨k, tag, g3, g5, g9, g10, g11, hk, e3⟩
    by_cases hlt : k < l.length
    · have hlt' : (k : Int) < (l.length : Int) := by omega
      have hw : IntKind.i64.wrap ((k : Int) + 1) = ((k + 1 : Nat) : Int) := by rw [w64 (by omega) (by omega)]; omega
      obtain ⟨r, hx⟩ : ∃ r, l[k]? = some r := ⟨l[k], by simp [hlt]⟩
      have hst := cellsL_step (v := v) hx
      simp -implicitDefEqProofs [g9, g10, g11, hlt', hx, eRc]
      refine allocK.intro (fun b2 hb2 => ?_)
      have n12 : ¬ b1 = b2 := by rintro rfl; rw [e3] at hb2; simp at hb2
      have n21 : ¬ b2 = b1 := fun h => n12 h.symm
      have e3' := e3
      rw [eV] at e3'
      by_cases h1 : r.kind = 2
      · by_cases h2 : r.view.add = v.add
        · by_cases h3 : r.view.del = v.del
          · rw [if_pos ⟨h1, view_eq.2 ⟨h2, h3⟩⟩] at hst
            have hm := merge10_spec (cellsL (l.take k) v) [r.cell]
            generalize cellsL (l.take k) v = cur at *
            simp -implicitDefEqProofs [g3, e3', n12, n21, h1, h2, h3, g5]
            refine CallK.via hm (by simp [eCs, eC]) ?_
            rintro _ ⟨tag2, rfl⟩
            simp -implicitDefEqProofs [g11, hw]
            exact ⟨⟨k + 1, _, by simp [g3], by rw [hst]; simp; rfl, by simp [g9], by simp [g10], by simp, by omega, by simp [n12, n21, e3]⟩, by omega⟩
          · rw [if_neg (fun h => h3 (view_eq.1 h.2).2)] at hst
            have h3' : (r.view.del == v.del) = false := by simpa using h3
            simp -implicitDefEqProofs [g3, e3', n12, n21, h1, h2, h3, h3', g11, hw]
            exact ⟨⟨k + 1, tag, by simp [g3], by rw [hst]; simp [g5], by simp [g9], by simp [g10], by simp, by omega, by simp [n12, n21, e3]⟩, by omega⟩
        · rw [if_neg (fun h => h2 (view_eq.1 h.2).1)] at hst
          have h2' : (r.view.add == v.add) = false := by simpa using h2
          simp -implicitDefEqProofs [g3, e3', n12, n21, h1, h2, h2', g11, hw]
          exact ⟨⟨k + 1, tag, by simp [g3], by rw [hst]; simp [g5], by simp [g9], by simp [g10], by simp, by omega, by simp [n12, n21, e3]⟩, by omega⟩
      · rw [if_neg (fun h => h1 h.1)] at hst
        simp -implicitDefEqProofs [g3, n12, n21, h1, g11, hw]
        exact ⟨⟨k + 1, tag, by simp [g3], by rw [hst]; simp [g5], by simp [g9], by simp [g10], by simp, by omega, by simp [n12, n21, e3]⟩, by omega⟩
    · have hlt' : ¬ (k : Int) < (l.length : Int) := by omega
      rw [List.take_of_length_le (by omega)] at g5
      simp -implicitDefEqProofs [g10, g11, hlt']
      exact ⟨tag, by simp [g5]⟩
  rintro t hh ⟨tag, g5⟩
  simp -implicitDefEqProofs [g5]
end Go.Proofs.YtjbbfiagijjdoaaGreat

/- Contracts: all views of records, each once, by their names. No condition. -/
set_option linter.unusedSimpArgs false
set_option linter.unusedVariables false
set_option maxRecDepth 10000
namespace Go.Proofs.YtjbbfiagijjdoaaGreat
open Go Go.Rw Go.Proofs
-- a goal is never to be run by the elaborator
attribute [local irreducible] awp aops aop aopsE aeff

def relR (r : PRec) : Bool := decide (r.kind = 1 ∨ r.kind = 2 ∨ r.kind = 5)
def presL (l : List PRec) (n : Nat) : Bool := l.any fun r => relR r && decide (nameV r.view = (n : Int))
def viewsTo (l : List PRec) (m : Nat) : List PView := ((List.range m).filter (presL l)).map fun (n : Nat) => viewN (n : Int)
def bestF (m : Int) (b : Int) (r : PRec) : Int := if relR r = true ∧ m < nameV r.view ∧ nameV r.view < b then nameV r.view else b
def bestL (l : List PRec) (m b : Int) : Int := l.foldl (bestF m) b
theorem bestL_spec : ∀ (l : List PRec) (m b : Int), (bestL l m b = b ∨ ∃ r ∈ l, relR r = true ∧ nameV r.view = bestL l m b ∧ m < bestL l m b) ∧ bestL l m b ≤ b ∧ ∀ r ∈ l, relR r = true → m < nameV r.view → bestL l m b ≤ nameV r.view
  | [], m, b => ⟨.inl rfl, Int.le_refl _, fun r hr => by simp at hr⟩
  | r :: l, m, b => by
    obtain ⟨h1, h2, h3⟩ := bestL_spec l m (bestF m b r)
    have e : bestL (r :: l) m b = bestL l m (bestF m b r) := rfl
    rw [e]
    generalize bestL l m (bestF m b r) = x at *
    unfold bestF at *
    by_cases h : relR r = true ∧ m < nameV r.view ∧ nameV r.view < b
    · simp only [h, and_self, if_true] at h1 h2
      refine ⟨.inr ?_, by omega, fun r' hr' hrel hm => ?_⟩
      · rcases h1 with h1 | ⟨r', hr', h4, h5, h6⟩
        · exact ⟨r, by simp, h.1, by omega, by omega⟩
        · exact ⟨r', by simp [hr'], h4, h5, h6⟩
      · rcases List.mem_cons.1 hr' with rfl | hr'
        · omega
        · exact h3 r' hr' hrel hm
    · rw [if_neg h] at h1 h2
      refine ⟨?_, h2, fun r' hr' hrel hm => ?_⟩
      · rcases h1 with h1 | ⟨r', hr', h4, h5, h6⟩
        · exact .inl h1
        · exact .inr ⟨r', by simp [hr'], h4, h5, h6⟩
      · rcases List.mem_cons.1 hr' with rfl | hr'
        · have : ¬ nameV r'.view < b := fun h5 => h ⟨hrel, hm, h5⟩
          omega
        · exact h3 r' hr' hrel hm
theorem bestL_step {l : List PRec} {k : Nat} {r : PRec} {m : Int} (h : l[k]? = some r) : bestL (l.take (k + 1)) m 5000 = bestF m (bestL (l.take k) m 5000) r := by
  unfold bestL
  rw [List.take_add_one, h, List.foldl_append]; rfl
theorem viewsTo_succ (l : List PRec) (m : Nat) : viewsTo l (m + 1) = viewsTo l m ++ (if presL l m = true then [viewN (m : Int)] else []) := by
  unfold viewsTo
  rw [List.range_succ, List.filter_append, List.map_append]
  cases h : presL l m <;> simp [h]
theorem viewsTo_skip {l : List PRec} {m k : Nat} (hk : m ≤ k) (h : ∀ n, m ≤ n → n < k → presL l n = false) : viewsTo l k = viewsTo l m := by
  induction k with
  | zero => obtain rfl : m = 0 := by omega
            rfl
  | succ k ih =>
    by_cases hm : m = k + 1
    · rw [hm]
    · rw [viewsTo_succ, h k (by omega) (by omega), ih (by omega) (fun n h1 h2 => h n h1 (by omega))]
      simp
theorem presL_iff {l : List PRec} {n : Nat} : presL l n = true ↔ ∃ r ∈ l, relR r = true ∧ nameV r.view = (n : Int) := by
  unfold presL
  rw [List.any_eq_true]
  simp only [Bool.and_eq_true, decide_eq_true_eq]
/-- the least name that comes next -/
theorem best_next {l : List PRec} (hv : ∀ r ∈ l, rightV r.view = true) {m : Nat} (hm : m ≤ 4096) : (bestL l ((m : Int) - 1) 5000 = 5000 ∧ viewsTo l 4096 = viewsTo l m) ∨
    (∃ b : Nat, m ≤ b ∧ b < 4096 ∧ bestL l ((m : Int) - 1) 5000 = (b : Int) ∧ viewsTo l (b + 1) = viewsTo l m ++ [viewN (b : Int)]) := by
  obtain ⟨h1, h2, h3⟩ := bestL_spec l ((m : Int) - 1) 5000
  generalize bestL l ((m : Int) - 1) 5000 = x at *
  rcases h1 with h1 | ⟨r, hr, h4, h5, h6⟩
  · refine .inl ⟨h1, viewsTo_skip hm fun n hn1 hn2 => ?_⟩
    rw [Bool.eq_false_iff]
    intro hp
    obtain ⟨r, hr, h4, h5⟩ := presL_iff.1 hp
    have := h3 r hr h4 (by omega)
    omega
  · have hn := nameV_lt (hv r hr)
    obtain ⟨b, rfl⟩ : ∃ b : Nat, x = (b : Int) := ⟨x.toNat, by omega⟩
    refine .inr ⟨b, by omega, by omega, rfl, ?_⟩
    rw [viewsTo_succ, presL_iff.2 ⟨r, hr, h4, h5⟩, if_pos rfl, viewsTo_skip (m := m) (by omega) fun n hn1 hn2 => ?_]
    rw [Bool.eq_false_iff]
    intro hp
    obtain ⟨r', hr', h7, h8⟩ := presL_iff.1 hp
    have := h3 r' hr' h7 (by omega)
    omega
theorem viewsTo_len (l : List PRec) (m : Nat) : (viewsTo l m).length ≤ m := by
  unfold viewsTo
  rw [List.length_map]
  have := List.length_filter_le (presL l) (List.range m)
  rw [List.length_range] at this
  exact this
def lastN (x : AV) : Nat := match x with | .v (.int _ n) => (n + 1).toNat | _ => 0
@[simp] theorem lastN_int (k : IntKind) (n : Int) : lastN (.v (.int k n)) = (n + 1).toNat := rfl
def VwI (l : List PRec) (t : Nat → AV) (h : Nat → Option (List AV)) : Prop := ∃ (m : Nat) (tag : Tag), t 0 = .sl .no (eRs l) ∧ t 3 = .sl tag (eVs (viewsTo l m)) ∧ appOK tag 24 2 ∧ t 4 = eI ((m : Int) - 1) ∧ m ≤ 4096
def VbI (l : List PRec) (m : Nat) (tag : Tag) (t : Nat → AV) (h : Nat → Option (List AV)) : Prop := ∃ k : Nat, t 0 = .sl .no (eRs l) ∧ t 3 = .sl tag (eVs (viewsTo l m)) ∧ t 4 = eI ((m : Int) - 1) ∧ t 5 = eI (bestL (l.take k) ((m : Int) - 1) 5000) ∧ t 12 = .sl .no (eRs l) ∧ t 13 = eI l.length ∧ t 14 = eI k ∧ k ≤ l.length
def VbM (l : List PRec) (m : Nat) (tag : Tag) (t : Nat → AV) (h : Nat → Option (List AV)) : Prop := t 0 = .sl .no (eRs l) ∧ t 3 = .sl tag (eVs (viewsTo l m)) ∧ t 4 = eI ((m : Int) - 1) ∧ t 5 = eI (bestL l ((m : Int) - 1) 5000)
theorem views12_spec (l : List PRec) (hv : ∀ r ∈ l, rightV r.view = true) (hl : l.length ≤ 1000000000) : ASpec Tryz.prog 77 [.sl .no (eRs l)] (fun r => ∃ tag, r = .sl tag (eVs (viewsTo l 4096))) := by
  refine ASpec.of_awp Tryz.func77 (by kernel_rfl) rfl (by rw [Tryz.results77]) Tryz.ntmps77 ?_
  simp -implicitDefEqProofs
  refine bsK.std ?_
  simp -implicitDefEqProofs
  refine loopK.intro (VwI l) (fun t => 4096 - lastN (t 4)) ?_ ?_
  · exact ⟨0, _, by simp, by simp [viewsTo, eVs]; rfl, by simp, by simp, by omega⟩
  rintro t hh ⟨m, tag, g0, g3, gt, g4, hm⟩
  simp -implicitDefEqProofs [g0]
  intro _
  refine loopK.post (VbI l m tag) (fun t => l.length - natOf (t 14)) (VbM l m tag) ?_ ?_ ?_
  · exact ⟨0, by simp [g0], by simp [g3], by simp [g4], by simp [bestL], by simp, by simp, by simp, by omega⟩
  · rintro t hh ⟨k, q0, q3, q4, q5, q12, q13, q14, hk⟩
    by_cases hlt : k < l.length
    · have hlt' : (k : Int) < (l.length : Int) := by omega
      have hw : IntKind.i64.wrap ((k : Int) + 1) = ((k + 1 : Nat) : Int) := by rw [w64 (by omega) (by omega)]; omega
      obtain ⟨r, hx⟩ : ∃ r, l[k]? = some r := ⟨l[k], by simp [hlt]⟩
      have hst := bestL_step (m := (m : Int) - 1) hx
      have hrv := hv r (List.mem_of_getElem? hx)
      have hnm := name4_spec r.view hrv
      generalize bestL (l.take k) ((m : Int) - 1) 5000 = bb at *
      simp -implicitDefEqProofs [q12, q13, q14, hlt', hx, eRc]
      refine allocK.intro (fun b1 hb1 => ?_)
      simp -implicitDefEqProofs
      refine CallK.with hnm (by simp [eV]) ?_
      simp -implicitDefEqProofs
      unfold bestF relR at hst
      by_cases h1 : r.kind = 1 ∨ r.kind = 2 ∨ r.kind = 5
      · by_cases h2 : (m : Int) - 1 < nameV r.view
        · by_cases h3 : nameV r.view < bb
          · rw [if_pos ⟨by simpa using h1, h2, h3⟩] at hst
            rcases h1 with h1 | h1 | h1
            · simp -implicitDefEqProofs [h1, q4, q5, h2, h3, q14, hw]
              exact ⟨⟨k + 1, by simp [q0], by simp [q3], by simp [q4], by simp [hst], by simp [q12], by simp [q13], by simp, by omega⟩, by omega⟩
            · simp -implicitDefEqProofs [h1, q4, q5, h2, h3, q14, hw]
              exact ⟨⟨k + 1, by simp [q0], by simp [q3], by simp [q4], by simp [hst], by simp [q12], by simp [q13], by simp, by omega⟩, by omega⟩
            · simp -implicitDefEqProofs [h1, q4, q5, h2, h3, q14, hw]
              exact ⟨⟨k + 1, by simp [q0], by simp [q3], by simp [q4], by simp [hst], by simp [q12], by simp [q13], by simp, by omega⟩, by omega⟩
          · rw [if_neg (fun h => h3 h.2.2)] at hst
            rcases h1 with h1 | h1 | h1
            · simp -implicitDefEqProofs [h1, q4, q5, h2, h3, q14, hw]
              exact ⟨⟨k + 1, by simp [q0], by simp [q3], by simp [q4], by simp [hst, q5], by simp [q12], by simp [q13], by simp, by omega⟩, by omega⟩
            · simp -implicitDefEqProofs [h1, q4, q5, h2, h3, q14, hw]
              exact ⟨⟨k + 1, by simp [q0], by simp [q3], by simp [q4], by simp [hst, q5], by simp [q12], by simp [q13], by simp, by omega⟩, by omega⟩
            · simp -implicitDefEqProofs [h1, q4, q5, h2, h3, q14, hw]
              exact ⟨⟨k + 1, by simp [q0], by simp [q3], by simp [q4], by simp [hst, q5], by simp [q12], by simp [q13], by simp, by omega⟩, by omega⟩
        · rw [if_neg (fun h => h2 h.2.1)] at hst
          rcases h1 with h1 | h1 | h1
          · simp -implicitDefEqProofs [h1, q4, q5, h2, q14, hw]
            exact ⟨⟨k + 1, by simp [q0], by simp [q3], by simp [q4], by simp [hst, q5], by simp [q12], by simp [q13], by simp, by omega⟩, by omega⟩
          · simp -implicitDefEqProofs [h1, q4, q5, h2, q14, hw]
            exact ⟨⟨k + 1, by simp [q0], by simp [q3], by simp [q4], by simp [hst, q5], by simp [q12], by simp [q13], by simp, by omega⟩, by omega⟩
          · simp -implicitDefEqProofs [h1, q4, q5, h2, q14, hw]
            exact ⟨⟨k + 1, by simp [q0], by simp [q3], by simp [q4], by simp [hst, q5], by simp [q12], by simp [q13], by simp, by omega⟩, by omega⟩
      · rw [if_neg (fun h => h1 (by simpa using h.1))] at hst
        have h11 : ¬ r.kind = 1 := fun h => h1 (.inl h)
        have h12 : ¬ r.kind = 2 := fun h => h1 (.inr (.inl h))
        have h15 : ¬ r.kind = 5 := fun h => h1 (.inr (.inr h))
        simp -implicitDefEqProofs [h11, h12, h15, q4, q5, q14, hw]
        exact ⟨⟨k + 1, by simp [q0], by simp [q3], by simp [q4], by simp [hst, q5], by simp [q12], by simp [q13], by simp, by omega⟩, by omega⟩
    · have hlt' : ¬ (k : Int) < (l.length : Int) := by omega
      rw [List.take_of_length_le (by omega)] at q5
      simp -implicitDefEqProofs [q13, q14, hlt']
      exact ⟨by simp [q0], by simp [q3], by simp [q4], by simp [q5]⟩
  rintro t hh ⟨q0, q3, q4, q5⟩
  rcases best_next hv hm with ⟨e1, e2⟩ | ⟨b, hb1, hb2, e1, e2⟩
  · rw [e1] at q5
    simp -implicitDefEqProofs [q5, q3, e2]
  · rw [e1] at q5
    have hne : ¬ (b : Int) = 5000 := by omega
    have hnd := named4_spec (b : Int)
    have hvl := viewsTo_len l m
    simp -implicitDefEqProofs [q5, hne]
    rw [namedA, if_pos (by omega)] at hnd
    have hvn : viewN (b : Int) = ⟨(b : Int) / 64, (b : Int) % 64⟩ := by unfold viewN; rw [if_pos (by omega)]
    refine CallK.eq hnd ?_
    simp -implicitDefEqProofs [eV]
    refine allocK.intro (fun b1 hb1 => ?_)
    simp -implicitDefEqProofs [q3, gt]
    refine ⟨by omega, ⟨b + 1, appTag tag 24 2 [eV (viewN (b : Int))], by simp [q0], ?_, by simp [gt], by simp, by omega⟩, ?_⟩
    · simp [e2, eVs, eV, hvn]
    · simp [g4]; omega
end Go.Proofs.YtjbbfiagijjdoaaGreat

/- Plain: the document's state behind records is the same. No condition. -/
set_option linter.unusedSimpArgs false
set_option linter.unusedVariables false
set_option maxRecDepth 10000
namespace Go.Proofs.YtjbbfiagijjdoaaGreat
open Go Go.Rw Go.Proofs

def heldL (v : PView) (l : List PRec) : PView := l.foldl (fun h r => if r.kind = 3 ∧ withinV h r.view = true then r.view else h) v
def lastL (l : List PRec) : Int := l.foldl (fun n r => if r.kind = 4 ∧ n < r.n then r.n else n) 0
def incL (l : List PRec) : Int := l.foldl (fun n r => if r.kind = 6 ∧ n < r.n then r.n else n) 0
def bookV (l : List PRec) (v : PView) : Option PVB := if bookL l v = [] then none else some ⟨v, bookL l v⟩
def cellsV (l : List PRec) (v : PView) : Option PVC := if cellsL l v = [] then none else some ⟨v, cellsL l v⟩
def intentV (l : List PRec) (v : PView) : Option PVI := (intentL l v).map fun c => ⟨v, c⟩
def stateL (v : PView) (l : List PRec) : PState := ⟨(viewsTo l 4096).filterMap (bookV l), (viewsTo l 4096).filterMap (cellsV l), (viewsTo l 4096).filterMap (intentV l), heldL v l, incL l, lastL l⟩
theorem heldL_step {v : PView} {l : List PRec} {k : Nat} {r : PRec} (h : l[k]? = some r) : heldL v (l.take (k + 1)) = if r.kind = 3 ∧ withinV (heldL v (l.take k)) r.view = true then r.view else heldL v (l.take k) := by
  unfold heldL
  rw [List.take_add_one, h, List.foldl_append]; rfl
theorem lastL_step {l : List PRec} {k : Nat} {r : PRec} (h : l[k]? = some r) : lastL (l.take (k + 1)) = if r.kind = 4 ∧ lastL (l.take k) < r.n then r.n else lastL (l.take k) := by
  unfold lastL
  rw [List.take_add_one, h, List.foldl_append]; rfl
theorem incL_step {l : List PRec} {k : Nat} {r : PRec} (h : l[k]? = some r) : incL (l.take (k + 1)) = if r.kind = 6 ∧ incL (l.take k) < r.n then r.n else incL (l.take k) := by
  unfold incL
  rw [List.take_add_one, h, List.foldl_append]; rfl
theorem intentL_step {v : PView} {l : List PRec} {k : Nat} {r : PRec} (h : l[k]? = some r) : intentL (l.take (k + 1)) v = if r.kind = 5 ∧ r.view = v ∧ intentL (l.take k) v = none then some r.cell.change else intentL (l.take k) v := by
  unfold intentL
  rw [List.take_add_one, h, List.find?_append]
  cases hf : (l.take k).find? (fun r => decide (r.kind = 5 ∧ r.view = v)) with
  | some x => simp
  | none =>
    by_cases h1 : r.kind = 5 ∧ r.view = v
    · simp [h1]
    · rw [if_neg (fun h => h1 ⟨h.1, h.2.1⟩)]
      simp [h1]
theorem merge_ne {a : List PEntry} {e : PEntry} (ha : okB a) (he : okB [e]) : ¬ mergeE a [e] = [] := by
  intro h
  have h1 := findE_merge ha he e.key
  rw [h, findE_one, if_pos rfl] at h1
  have h2 := newer_rightT (findE a e.key) e
  rw [← h1] at h2
  have h3 := (he.2 e (by simp)).2.2.2
  rw [lessT_no] at h2
  have h4 : (findE ([] : List PEntry) e.key).tag = ⟨0, 0⟩ := rfl
  rw [h4] at h2
  simp only at h2
  omega
theorem mergeC_ne {a : List PCell} {c : PCell} (ha : okCs a) (hc : okCs [c]) : ¬ mergeC a [c] = [] := by
  intro h
  have h1 := ofC_merge ha hc c.node
  rw [h, ofC_one, if_pos rfl] at h1
  split at h1
  · rename_i h2
    rw [← h1] at h2; simp [ofC] at h2
  · simp [ofC] at h1
/-- what the state tells is what all records tell -/
structure TellsL (v : PView) (l : List PRec) (s : PState) : Prop where
  book : ∀ u, rightV u = true → bookS s u = bookL l u
  cells : ∀ u, rightV u = true → cellsS s u = cellsL l u
  intent : ∀ u, rightV u = true → intentS s u = intentL l u
  held : s.held = heldL v l
  last : s.last = lastL l
  inc : s.inc = incL l
  bne : ∀ x ∈ s.books, ¬ x.book = []
  cne : ∀ x ∈ s.cells, ¬ x.cells = []
theorem tells_new (v : PView) : TellsL v [] (newS v) :=
  ⟨fun u hu => rfl, fun u hu => rfl, fun u hu => rfl, rfl, rfl, rfl, fun x hx => by simp [newS] at hx, fun x hx => by simp [newS] at hx⟩
theorem tells_fold {v : PView} (hv : rightV v = true) {l : List PRec} (hl : ∀ r ∈ l, rightR r = true) (k : Nat) (hk : k ≤ l.length) : TellsL v (l.take k) (foldS v (l.take k)) := by
  induction k with
  | zero => exact tells_new v
  | succ k ih =>
    have hx : l[k]? = some l[k] := List.getElem?_eq_getElem (by omega)
    have T := ih (by omega)
    have O := okT_fold hv hl k (by omega)
    have hr := hl _ (List.mem_of_getElem? hx)
    have hn := okN_apply O.toOkN hr
    generalize l[k] = r at *
    have hx' := hx
    rw [foldS_step hx]
    generalize foldS v (l.take k) = s at *
    have R := rightR_of hr
    refine ⟨fun u hu => ?_, fun u hu => ?_, fun u hu => ?_, ?_, ?_, ?_, fun x hx => ?_, fun x hx => ?_⟩
    · rw [bookS_apply O.toOkN hr hu, bookL_step hx', ← T.book u hu]
      split
      · rename_i h
        rw [mergeD_eq (O.bookOk u).right (R.entry h.1).right]
      · rfl
    · rw [cellsS_apply O.toOkN hr hu, cellsL_step hx', ← T.cells u hu]
    · rw [intentS_apply O.toOkN hr hu, intentL_step hx', ← T.intent u hu]
    · rw [apply_held, heldL_step hx', ← T.held]
    · rw [apply_last, lastL_step hx', ← T.last]
      by_cases h4 : r.kind = 4
      · rw [if_pos h4]
        by_cases h5 : s.last < r.n
        · rw [if_pos ⟨h4, h5⟩]; omega
        · rw [if_neg (fun h => h5 h.2)]; omega
      · rw [if_neg h4, if_neg (fun h => h4 h.1)]
    · rw [apply_inc, incL_step hx', ← T.inc]
      by_cases h4 : r.kind = 6
      · rw [if_pos h4]
        by_cases h5 : s.inc < r.n
        · rw [if_pos ⟨h4, h5⟩]; omega
        · rw [if_neg (fun h => h5 h.2)]; omega
      · rw [if_neg h4, if_neg (fun h => h4 h.1)]
    · rw [look_mem hn.sb, apply_books] at hx
      split at hx
      · rename_i h
        obtain rfl := Option.some.inj hx
        exact merge_ne (O.bookOk r.view) (R.entry h.1)
      · exact T.bne x (look_some hx).1
    · rw [look_mem hn.sc, apply_cells] at hx
      split at hx
      · rename_i h
        obtain rfl := Option.some.inj hx
        show ¬ mergeS _ _ = []
        rw [mergeS_eq (O.cells r.view) (okCs_one (right_cell hr).2)]
        exact mergeC_ne (O.cells r.view) (okCs_one (right_cell hr).2)
      · exact T.cne x (look_some hx).1
section
variable {α : Type} {key : α → Int}
theorem sort_ext' {l m : List α} (hl : sortK key l) (hm : sortK key m) (h : ∀ x, x ∈ l ↔ x ∈ m) : l = m := by
  have hp : l.Perm m := (List.perm_ext_iff_of_nodup (nodupK hl) (nodupK hm)).2 h
  refine List.Perm.eq_of_pairwise (le := fun x y => key x ≤ key y) (fun x y hx hy h1 h2 => ?_) (hl.imp fun h => by omega) (hm.imp fun h => by omega) hp
  exact key_inj hl hx ((hp.mem_iff).2 hy) (by omega)
end
theorem views_sorted (l : List PRec) : (viewsTo l 4096).Pairwise fun a b => nameV a < nameV b := by
  unfold viewsTo
  rw [List.pairwise_map]
  have h1 : ((List.range 4096).filter (presL l)).Pairwise (· < ·) := List.Pairwise.filter _ List.pairwise_lt_range
  refine List.Pairwise.imp_of_mem (fun {a b} ha hb hab => ?_) h1
  have h2 := List.mem_range.1 (List.mem_filter.1 ha).1
  have h3 := List.mem_range.1 (List.mem_filter.1 hb).1
  rw [nameV_view (by omega), nameV_view (by omega)]
  omega
theorem views_mem {l : List PRec} (hl : ∀ r ∈ l, rightV r.view = true) {u : PView} : u ∈ viewsTo l 4096 ↔ ∃ r ∈ l, relR r = true ∧ r.view = u := by
  unfold viewsTo
  rw [List.mem_map]
  constructor
  · rintro ⟨n, hn, rfl⟩
    obtain ⟨h1, h2⟩ := List.mem_filter.1 hn
    obtain ⟨r, hr, h3, h4⟩ := presL_iff.1 h2
    refine ⟨r, hr, h3, ?_⟩
    rw [← h4, viewN_name (hl r hr)]
  · rintro ⟨r, hr, h3, rfl⟩
    have h5 := nameV_lt (hl r hr)
    refine ⟨(nameV r.view).toNat, List.mem_filter.2 ⟨List.mem_range.2 (by omega), presL_iff.2 ⟨r, hr, h3, by omega⟩⟩, ?_⟩
    rw [show (((nameV r.view).toNat : Nat) : Int) = nameV r.view by omega, viewN_name (hl r hr)]
theorem bookL_ne {l : List PRec} {u : PView} (h : ¬ bookL l u = []) : ∃ r ∈ l, relR r = true ∧ r.view = u := by
  refine Classical.byContradiction fun hno => h ?_
  unfold bookL
  have : ∀ (l' : List PRec) (b : List PEntry), (∀ r ∈ l', r ∈ l) → l'.foldl (fun b r => if r.kind = 1 ∧ r.view = u then mergeD b [r.entry] else b) b = b := by
    intro l'
    induction l' with
    | nil => intro b _; rfl
    | cons r l' ih =>
      intro b hsub
      rw [List.foldl_cons, if_neg, ih b (fun x hx => hsub x (by simp [hx]))]
      rintro ⟨h1, h2⟩
      exact hno ⟨r, hsub r (by simp), by simp [relR, h1], h2⟩
  exact this l [] fun r hr => hr
theorem cellsL_ne {l : List PRec} {u : PView} (h : ¬ cellsL l u = []) : ∃ r ∈ l, relR r = true ∧ r.view = u := by
  refine Classical.byContradiction fun hno => h ?_
  unfold cellsL
  have : ∀ (l' : List PRec) (b : List PCell), (∀ r ∈ l', r ∈ l) → l'.foldl (fun b r => if r.kind = 2 ∧ r.view = u then mergeC b [r.cell] else b) b = b := by
    intro l'
    induction l' with
    | nil => intro b _; rfl
    | cons r l' ih =>
      intro b hsub
      rw [List.foldl_cons, if_neg, ih b (fun x hx => hsub x (by simp [hx]))]
      rintro ⟨h1, h2⟩
      exact hno ⟨r, hsub r (by simp), by simp [relR, h1], h2⟩
  exact this l [] fun r hr => hr
theorem intentL_ne {l : List PRec} {u c : PView} (h : intentL l u = some c) : ∃ r ∈ l, relR r = true ∧ r.view = u := by
  unfold intentL at h
  cases hf : l.find? (fun r => decide (r.kind = 5 ∧ r.view = u)) with
  | none => rw [hf] at h; simp at h
  | some r =>
    have h1 := List.find?_some hf
    simp at h1
    exact ⟨r, List.mem_of_find?_eq_some hf, by simp [relR, h1.1], h1.2⟩
theorem state_eq {v : PView} (hv : rightV v = true) {l : List PRec} (hl : ∀ r ∈ l, rightR r = true) : stateL v l = foldS v l := by
  have T := tells_fold hv hl l.length (Nat.le_refl _)
  have O := okT_fold hv hl l.length (Nat.le_refl _)
  rw [List.take_length] at T O
  have hlv : ∀ r ∈ l, rightV r.view = true := fun r hr => (right_cell (hl r hr)).1
  have hvr : ∀ u ∈ viewsTo l 4096, rightV u = true := fun u hu => by
    obtain ⟨r, hr, _, rfl⟩ := (views_mem hlv).1 hu
    exact hlv r hr
  generalize foldS v l = s at *
  obtain ⟨bs, cs, is, h, i, a⟩ := s
  have e1 : (viewsTo l 4096).filterMap (bookV l) = bs := by
    refine sort_ext' (key := keyVB) ?_ O.sb fun x => ?_
    · unfold sortK
      rw [List.pairwise_filterMap]
      refine (views_sorted l).imp fun {u w} h x hx y hy => ?_
      unfold bookV at hx hy
      split at hx <;> split at hy <;> simp at hx hy
      subst hx; subst hy
      exact h
    · rw [List.mem_filterMap]
      constructor
      · rintro ⟨u, hu, hx⟩
        unfold bookV at hx
        split at hx
        · simp at hx
        · rename_i hne
          obtain rfl := Option.some.inj hx
          have h1 := T.book u (hvr u hu)
          rw [bookS_look O.sb] at h1
          cases hk : lookK keyVB bs (nameV u) with
          | none => simp only [hk] at h1; exact absurd h1.symm hne
          | some y =>
            simp only [hk, Option.map_some, Option.getD_some] at h1
            obtain ⟨h2, h3⟩ := look_some hk
            have h4 : y.view = u := name_inj (O.rb y h2) (hvr u hu) h3
            have : y = ⟨u, bookL l u⟩ := by rw [← h1, ← h4]
            rw [← this]; exact h2
      · intro hx
        have h1 := T.book x.view (O.rb x hx)
        rw [bookS_look O.sb, show nameV x.view = keyVB x from rfl, (look_mem O.sb).1 hx] at h1
        simp only [Option.map_some, Option.getD_some] at h1
        have hne : ¬ bookL l x.view = [] := by rw [← h1]; exact T.bne x hx
        refine ⟨x.view, (views_mem hlv).2 (bookL_ne hne), ?_⟩
        unfold bookV
        rw [if_neg hne, ← h1]
  have e2 : (viewsTo l 4096).filterMap (cellsV l) = cs := by
    refine sort_ext' (key := keyVC) ?_ O.sc fun x => ?_
    · unfold sortK
      rw [List.pairwise_filterMap]
      refine (views_sorted l).imp fun {u w} h x hx y hy => ?_
      unfold cellsV at hx hy
      split at hx <;> split at hy <;> simp at hx hy
      subst hx; subst hy
      exact h
    · rw [List.mem_filterMap]
      constructor
      · rintro ⟨u, hu, hx⟩
        unfold cellsV at hx
        split at hx
        · simp at hx
        · rename_i hne
          obtain rfl := Option.some.inj hx
          have h1 := T.cells u (hvr u hu)
          rw [cellsS_look O.sc] at h1
          cases hk : lookK keyVC cs (nameV u) with
          | none => simp only [hk] at h1; exact absurd h1.symm hne
          | some y =>
            simp only [hk, Option.map_some, Option.getD_some] at h1
            obtain ⟨h2, h3⟩ := look_some hk
            have h4 : y.view = u := name_inj (O.rc y h2) (hvr u hu) h3
            have : y = ⟨u, cellsL l u⟩ := by rw [← h1, ← h4]
            rw [← this]; exact h2
      · intro hx
        have h1 := T.cells x.view (O.rc x hx)
        rw [cellsS_look O.sc, show nameV x.view = keyVC x from rfl, (look_mem O.sc).1 hx] at h1
        simp only [Option.map_some, Option.getD_some] at h1
        have hne : ¬ cellsL l x.view = [] := by rw [← h1]; exact T.cne x hx
        refine ⟨x.view, (views_mem hlv).2 (cellsL_ne hne), ?_⟩
        unfold cellsV
        rw [if_neg hne, ← h1]
  have e3 : (viewsTo l 4096).filterMap (intentV l) = is := by
    refine sort_ext' (key := keyVI) ?_ O.si fun x => ?_
    · unfold sortK
      rw [List.pairwise_filterMap]
      refine (views_sorted l).imp fun {u w} h x hx y hy => ?_
      unfold intentV at hx hy
      simp only [Option.map_eq_some_iff] at hx hy
      obtain ⟨_, _, rfl⟩ := hx
      obtain ⟨_, _, rfl⟩ := hy
      exact h
    · rw [List.mem_filterMap]
      constructor
      · rintro ⟨u, hu, hx⟩
        unfold intentV at hx
        rw [Option.map_eq_some_iff] at hx
        obtain ⟨c, hc, rfl⟩ := hx
        have h1 := T.intent u (hvr u hu)
        rw [intentS_look O.si, hc, Option.map_eq_some_iff] at h1
        obtain ⟨y, hk, h1⟩ := h1
        obtain ⟨h2, h3⟩ := look_some hk
        have h4 : y.view = u := name_inj (O.ri y h2) (hvr u hu) h3
        have : y = ⟨u, c⟩ := by rw [← h1, ← h4]
        rw [← this]; exact h2
      · intro hx
        have h1 := T.intent x.view (O.ri x hx)
        rw [intentS_look O.si, show nameV x.view = keyVI x from rfl, (look_mem O.si).1 hx] at h1
        simp only [Option.map_some] at h1
        refine ⟨x.view, (views_mem hlv).2 (intentL_ne h1.symm), ?_⟩
        unfold intentV
        rw [← h1]
        rfl
  have e4 := T.held
  have e5 := T.last
  have e6 := T.inc
  simp only at e4 e5 e6
  unfold stateL
  rw [e1, e2, e3, ← e4, ← e5, ← e6]
end Go.Proofs.YtjbbfiagijjdoaaGreat

/- Contracts: the document's intents and its state behind records. No condition. -/
set_option linter.unusedSimpArgs false
set_option linter.unusedVariables false
set_option maxRecDepth 10000
namespace Go.Proofs.YtjbbfiagijjdoaaGreat
open Go Go.Rw Go.Proofs
-- a goal is never to be run by the elaborator
attribute [local irreducible] awp aops aop aopsE aeff

def intentA' (o : Option PView) : AV := .tup [.agg (eV (o.getD ⟨0, 0⟩)), .v (.bool o.isSome)]
def InI (l : List PRec) (v : PView) (b1 b2 : Nat) (t : Nat → AV) (h : Nat → Option (List AV)) : Prop := ∃ k : Nat, t 3 = .ptr b1 0 ∧ t 4 = .ptr b2 0 ∧ t 8 = .sl .no (eRs l) ∧ t 9 = eI l.length ∧ t 10 = eI k ∧ k ≤ l.length ∧ h b1 = some (eV v) ∧ (∃ z, h b2 = some z ∧ z.length = 2) ∧ intentL (l.take k) v = none
def InM (l : List PRec) (v : PView) (b2 : Nat) (t : Nat → AV) (h : Nat → Option (List AV)) : Prop := t 4 = .ptr b2 0 ∧ (∃ z, h b2 = some z ∧ z.length = 2) ∧ intentL l v = none
theorem intentL_hit {l : List PRec} {k : Nat} {r : PRec} {v : PView} (hx : l[k]? = some r) (hn : intentL (l.take k) v = none) (h1 : r.kind = 5) (h2 : r.view = v) : intentL l v = some r.cell.change := by
  have hs := intentL_step (v := v) hx
  rw [if_pos ⟨h1, h2, hn⟩] at hs
  have e : l = l.take (k + 1) ++ l.drop (k + 1) := (List.take_append_drop _ _).symm
  unfold intentL at hs ⊢
  rw [e, List.find?_append]
  cases hf : (l.take (k + 1)).find? (fun r => decide (r.kind = 5 ∧ r.view = v)) with
  | none => rw [hf] at hs; simp at hs
  | some x => rw [hf] at hs; simpa using hs
theorem intent12_spec (l : List PRec) (v : PView) (hl : l.length ≤ 1000000000) : ASpec Tryz.prog 32 [.sl .no (eRs l), .agg (eV v)] (· = intentA' (intentL l v)) := by
  refine ASpec.of_awp Tryz.func32 (by kernel_rfl) rfl (by rw [Tryz.results32]) Tryz.ntmps32 ?_
  simp -implicitDefEqProofs [eV]
  refine allocK.intro (fun b1 hb1 => ?_)
  simp -implicitDefEqProofs
  refine allocK.intro (fun b2 hb2 => ?_)
  have n12 : ¬ b1 = b2 := by rintro rfl; simp at hb2
  have n21 : ¬ b2 = b1 := fun h => n12 h.symm
  simp -implicitDefEqProofs [n12, n21]
  intro _
  refine loopK.post (InI l v b1 b2) (fun t => l.length - natOf (t 10)) (InM l v b2) ?_ ?_ ?_
  · exact ⟨0, by simp, by simp, by simp, by simp, by simp, by omega, by simp [n12, eV], ⟨_, by simp; rfl, rfl⟩, by simp [intentL]⟩
  · rintro t hh ⟨k, g3, g4, g8, g9, g10, hk, e1, ⟨z, e2, hz⟩, hn⟩
    by_cases hlt : k < l.length
    · have hlt' : (k : Int) < (l.length : Int) := by omega
      have hw : IntKind.i64.wrap ((k : Int) + 1) = ((k + 1 : Nat) : Int) := by rw [w64 (by omega) (by omega)]; omega
      obtain ⟨r, hx⟩ : ∃ r, l[k]? = some r := ⟨l[k], by simp [hlt]⟩
      have hst := intentL_step (v := v) hx
      simp -implicitDefEqProofs [g8, g9, g10, hlt', hx, eRc]
      refine allocK.intro (fun b3 hb3 => ?_)
      have n13 : ¬ b1 = b3 := by rintro rfl; rw [e1] at hb3; simp at hb3
      have n31 : ¬ b3 = b1 := fun h => n13 h.symm
      have n23 : ¬ b2 = b3 := by rintro rfl; rw [e2] at hb3; simp at hb3
      have n32 : ¬ b3 = b2 := fun h => n23 h.symm
      have e1' := e1
      rw [eV] at e1'
      by_cases h1 : r.kind = 5
      · by_cases h2 : r.view.add = v.add
        · by_cases h3 : r.view.del = v.del
          · have hr := intentL_hit hx hn h1 (view_eq.2 ⟨h2, h3⟩)
            rw [hr]
            simp -implicitDefEqProofs [g3, g4, e1', e2, hz, n12, n21, n13, n31, n23, n32, h1, h2, h3, intentA', eV]
          · rw [if_neg (fun h => h3 (view_eq.1 h.2.1).2), hn] at hst
            have h3' : (r.view.del == v.del) = false := by simpa using h3
            simp -implicitDefEqProofs [g3, e1', n13, n31, h1, h2, h3, h3', g10, hw]
            exact ⟨⟨k + 1, by simp [g3], by simp [g4], by simp [g8], by simp [g9], by simp, by omega, by simp [n13, n31, e1], ⟨z, by simp [n23, e2], hz⟩, hst⟩, by omega⟩
        · rw [if_neg (fun h => h2 (view_eq.1 h.2.1).1), hn] at hst
          have h2' : (r.view.add == v.add) = false := by simpa using h2
          simp -implicitDefEqProofs [g3, e1', n13, n31, h1, h2, h2', g10, hw]
          exact ⟨⟨k + 1, by simp [g3], by simp [g4], by simp [g8], by simp [g9], by simp, by omega, by simp [n13, n31, e1], ⟨z, by simp [n23, e2], hz⟩, hst⟩, by omega⟩
      · rw [if_neg (fun h => h1 h.1), hn] at hst
        simp -implicitDefEqProofs [g3, n13, n31, h1, g10, hw]
        exact ⟨⟨k + 1, by simp [g3], by simp [g4], by simp [g8], by simp [g9], by simp, by omega, by simp [n13, n31, e1], ⟨z, by simp [n23, e2], hz⟩, hst⟩, by omega⟩
    · have hlt' : ¬ (k : Int) < (l.length : Int) := by omega
      rw [List.take_of_length_le (by omega)] at hn
      simp -implicitDefEqProofs [g9, g10, hlt']
      exact ⟨by simp [g4], ⟨z, e2, hz⟩, hn⟩
  rintro t hh ⟨g4, ⟨z, e2, hz⟩, hn⟩
  rw [hn]
  simp -implicitDefEqProofs [g4, e2, hz, intentA', eV]
def OfB (h i a : Int × Int) (b5 : Nat) : Prop := True
end Go.Proofs.YtjbbfiagijjdoaaGreat

/- Contract: the document's state behind records. No condition. -/
set_option linter.unusedSimpArgs false
set_option linter.unusedVariables false
set_option maxRecDepth 10000
namespace Go.Proofs.YtjbbfiagijjdoaaGreat
open Go Go.Rw Go.Proofs
-- a goal is never to be run by the elaborator
attribute [local irreducible] awp aops aop aopsE aeff

theorem CallQ.take2 {P : Program} {g : FuncId} {args args' : List AV} {K R : AV → Prop} {x : AV} (h : ASpec P g args' R) (ha : args = args') (hr : ∀ r, R r → dead1 r = x) (hk : K x) : @CallQ P g args ⟨K⟩ := by
  subst ha
  exact .of h hr hk
def eSt3 (t1 t2 t3 : Tag) (s : PState) : List AV := [.sl t1 (rowsVB s.books), .sl t2 (rowsVC s.cells), .sl t3 (rowsVI s.intents), eI s.held.add, eI s.held.del, eI s.inc, eI s.last]
def headL (v : PView) (l : List PRec) : PState := ⟨[], [], [], heldL v l, incL l, lastL l⟩
def OfI1 (v : PView) (l : List PRec) (b2 b3 : Nat) (t : Nat → AV) (h : Nat → Option (List AV)) : Prop := ∃ k : Nat, t 1 = .sl .no (eRs l) ∧ t 4 = .ptr b2 0 ∧ t 5 = .ptr b3 0 ∧ t 16 = .sl .no (eRs l) ∧ t 17 = eI l.length ∧ t 18 = eI k ∧ k ≤ l.length ∧ (∃ z, h b2 = some z ∧ z.length = 7) ∧ h b3 = some (eSt3 .nil .nil .nil (headL v (l.take k)))
def OfM1 (v : PView) (l : List PRec) (b2 b3 : Nat) (t : Nat → AV) (h : Nat → Option (List AV)) : Prop := t 1 = .sl .no (eRs l) ∧ t 4 = .ptr b2 0 ∧ t 5 = .ptr b3 0 ∧ (∃ z, h b2 = some z ∧ z.length = 7) ∧ h b3 = some (eSt3 .nil .nil .nil (headL v l))
def partL (v : PView) (l : List PRec) (vs : List PView) : PState := ⟨vs.filterMap (bookV l), vs.filterMap (cellsV l), vs.filterMap (intentV l), heldL v l, incL l, lastL l⟩
def OfI2 (v : PView) (l : List PRec) (vs : List PView) (b2 b3 : Nat) (t : Nat → AV) (h : Nat → Option (List AV)) : Prop := ∃ (k : Nat) (t1 t2 t3 tv : Tag), t 1 = .sl .no (eRs l) ∧ t 4 = .ptr b2 0 ∧ t 5 = .ptr b3 0 ∧ t 63 = .sl tv (eVs vs) ∧ t 64 = eI vs.length ∧ t 65 = eI k ∧ k ≤ vs.length ∧ (∃ z, h b2 = some z ∧ z.length = 7) ∧ h b3 = some (eSt3 t1 t2 t3 (partL v l (vs.take k))) ∧ appOK t1 89 3 ∧ appOK t2 91 3 ∧ appOK t3 93 4
def OfM2 (v : PView) (l : List PRec) (vs : List PView) (b2 b3 : Nat) (t : Nat → AV) (h : Nat → Option (List AV)) : Prop := ∃ (t1 t2 t3 : Tag), t 4 = .ptr b2 0 ∧ t 5 = .ptr b3 0 ∧ (∃ z, h b2 = some z ∧ z.length = 7) ∧ h b3 = some (eSt3 t1 t2 t3 (partL v l vs))
theorem of12_spec (v : PView) (l : List PRec) (hv : rightV v = true) (hl : ∀ r ∈ l, rightR r = true) (hn : l.length ≤ 1000000000) : ASpec Tryz.prog 24 [.agg (eV v), .sl .no (eRs l)] (· = .agg (eSt (stateL v l))) := by
  refine ASpec.of_awp Tryz.func24 (by kernel_rfl) rfl (by rw [Tryz.results24]) Tryz.ntmps24 ?_
  simp -implicitDefEqProofs [eV]
  refine allocK.intro (fun b1 hb1 => ?_)
  simp -implicitDefEqProofs
  refine allocK.intro (fun b2 hb2 => ?_)
  have n12 : ¬ b1 = b2 := by rintro rfl; simp at hb2
  have n21 : ¬ b2 = b1 := fun h => n12 h.symm
  simp -implicitDefEqProofs [n12, n21]
  refine allocK.intro (fun b3 hb3 => ?_)
  have n13 : ¬ b1 = b3 := by rintro rfl; simp [n12] at hb3
  have n31 : ¬ b3 = b1 := fun h => n13 h.symm
  have n23 : ¬ b2 = b3 := by rintro rfl; simp at hb3
  have n32 : ¬ b3 = b2 := fun h => n23 h.symm
  simp -implicitDefEqProofs [n12, n21, n13, n31, n23, n32]
  intro _
  refine loopK.post (OfI1 v l b2 b3) (fun t => l.length - natOf (t 18)) (OfM1 v l b2 b3) ?_ ?_ ?_
  · exact ⟨0, by simp, by simp, by simp, by simp, by simp, by simp, by omega, ⟨_, by simp [n12, n21, n13, n31, n23, n32]; rfl, rfl⟩, by simp [eSt3, headL, heldL, incL, lastL, rowsVB, rowsVC, rowsVI]⟩
  · rintro t hh ⟨k, g1, g4, g5, g16, g17, g18, hk, ⟨z, c2, hz⟩, c3⟩
    by_cases hlt : k < l.length
    · have hlt' : (k : Int) < (l.length : Int) := by omega
      have hw : IntKind.i64.wrap ((k : Int) + 1) = ((k + 1 : Nat) : Int) := by rw [w64 (by omega) (by omega)]; omega
      obtain ⟨r, hx⟩ : ∃ r, l[k]? = some r := ⟨l[k], by simp [hlt]⟩
      have hrr := hl r (List.mem_of_getElem? hx)
      have hhr : rightV (heldL v (l.take k)) = true := by
        have := (tells_fold hv hl k hk).held
        rw [← this]
        exact (okT_fold hv hl k hk).rh
      have s1 := heldL_step (v := v) hx
      have s2 := lastL_step hx
      have s3 := incL_step hx
      have hwi := within4_spec (heldL v (l.take k)) r.view hhr (right_cell hrr).1
      unfold headL at c3
      have e9 : headL v (l.take (k + 1)) = ⟨[], [], [], heldL v (l.take (k + 1)), incL (l.take (k + 1)), lastL (l.take (k + 1))⟩ := rfl
      generalize heldL v (l.take k) = he at *
      generalize lastL (l.take k) = la at *
      generalize incL (l.take k) = ic at *
      simp -implicitDefEqProofs [g16, g17, g18, hlt', hx, eRc]
      refine allocK.intro (fun b4 hb4 => ?_)
      have n24 : ¬ b2 = b4 := by rintro rfl; rw [c2] at hb4; simp at hb4
      have n42 : ¬ b4 = b2 := fun h => n24 h.symm
      have n34 : ¬ b3 = b4 := by rintro rfl; rw [c3] at hb4; simp at hb4
      have n43 : ¬ b4 = b3 := fun h => n34 h.symm
      rw [eSt3] at c3
      by_cases k3 : r.kind = 3
      · rw [if_neg (by omega)] at s2 s3
        simp -implicitDefEqProofs [g5, c3, n34, n43, k3]
        refine CallK.with hwi (by simp [eV]) ?_
        cases hi : withinV he r.view
        · rw [if_neg (by rw [hi]; simp)] at s1
          simp -implicitDefEqProofs [g5, c3, n34, n43, k3, g18, hw]
          exact ⟨⟨k + 1, by simp [g1], by simp [g4], by simp [g5], by simp [g16], by simp [g17], by simp, by omega, ⟨z, by simp [n24, n23, c2], hz⟩, by rw [e9, s1, s2, s3]; simp [n34, n43, c3, eSt3, rowsVB, rowsVC, rowsVI]⟩, by omega⟩
        · rw [if_pos ⟨k3, hi⟩] at s1
          simp -implicitDefEqProofs [g5, c3, n34, n43, k3, g18, hw]
          exact ⟨⟨k + 1, by simp [g1], by simp [g4], by simp [g5], by simp [g16], by simp [g17], by simp, by omega, ⟨z, by simp [n24, n23, c2], hz⟩, by rw [e9, s1, s2, s3]; simp [eSt3, rowsVB, rowsVC, rowsVI]⟩, by omega⟩
      · rw [if_neg (fun h => k3 h.1)] at s1
        by_cases k4 : r.kind = 4
        · rw [if_neg (by omega)] at s3
          by_cases hi : la < r.n
          · rw [if_pos ⟨k4, hi⟩] at s2
            simp -implicitDefEqProofs [g5, c3, n34, n43, k3, k4, hi, g18, hw]
            exact ⟨⟨k + 1, by simp [g1], by simp [g4], by simp [g5], by simp [g16], by simp [g17], by simp, by omega, ⟨z, by simp [n24, n23, c2], hz⟩, by rw [e9, s1, s2, s3]; simp [eSt3, rowsVB, rowsVC, rowsVI]⟩, by omega⟩
          · rw [if_neg (fun h => hi h.2)] at s2
            simp -implicitDefEqProofs [g5, c3, n34, n43, k3, k4, hi, g18, hw]
            exact ⟨⟨k + 1, by simp [g1], by simp [g4], by simp [g5], by simp [g16], by simp [g17], by simp, by omega, ⟨z, by simp [n24, n23, c2], hz⟩, by rw [e9, s1, s2, s3]; simp [n34, n43, c3, eSt3, rowsVB, rowsVC, rowsVI]⟩, by omega⟩
        · rw [if_neg (fun h => k4 h.1)] at s2
          by_cases k6 : r.kind = 6
          · by_cases hi : ic < r.n
            · rw [if_pos ⟨k6, hi⟩] at s3
              simp -implicitDefEqProofs [g5, c3, n34, n43, k3, k4, k6, hi, g18, hw]
              exact ⟨⟨k + 1, by simp [g1], by simp [g4], by simp [g5], by simp [g16], by simp [g17], by simp, by omega, ⟨z, by simp [n24, n23, c2], hz⟩, by rw [e9, s1, s2, s3]; simp [eSt3, rowsVB, rowsVC, rowsVI]⟩, by omega⟩
            · rw [if_neg (fun h => hi h.2)] at s3
              simp -implicitDefEqProofs [g5, c3, n34, n43, k3, k4, k6, hi, g18, hw]
              exact ⟨⟨k + 1, by simp [g1], by simp [g4], by simp [g5], by simp [g16], by simp [g17], by simp, by omega, ⟨z, by simp [n24, n23, c2], hz⟩, by rw [e9, s1, s2, s3]; simp [n34, n43, c3, eSt3, rowsVB, rowsVC, rowsVI]⟩, by omega⟩
          · rw [if_neg (fun h => k6 h.1)] at s3
            simp -implicitDefEqProofs [g5, c3, n34, n43, k3, k4, k6, g18, hw]
            exact ⟨⟨k + 1, by simp [g1], by simp [g4], by simp [g5], by simp [g16], by simp [g17], by simp, by omega, ⟨z, by simp [n24, n23, c2], hz⟩, by rw [e9, s1, s2, s3]; simp [n34, n43, c3, eSt3, rowsVB, rowsVC, rowsVI]⟩, by omega⟩
    · have hlt' : ¬ (k : Int) < (l.length : Int) := by omega
      rw [List.take_of_length_le (by omega)] at c3
      simp -implicitDefEqProofs [g17, g18, hlt']
      exact ⟨by simp [g1], by simp [g4], by simp [g5], ⟨z, c2, hz⟩, c3⟩
  rintro t hh ⟨g1, g4, g5, ⟨z, c2, hz⟩, c3⟩
  have hvs := views12_spec l (fun r hr => (right_cell (hl r hr)).1) hn
  have hvl := viewsTo_len l 4096
  unfold stateL
  generalize viewsTo l 4096 = vs at *
  simp -implicitDefEqProofs [g1]
  refine CallK.via hvs (by simp) ?_
  rintro _ ⟨tag, rfl⟩
  simp -implicitDefEqProofs
  intro _
  refine loopK.post (OfI2 v l vs b2 b3) (fun t => vs.length - natOf (t 65)) (OfM2 v l vs b2 b3) ?_ ?_ ?_
  · exact ⟨0, .nil, .nil, .nil, tag, by simp [g1], by simp [g4], by simp [g5], by simp, by simp, by simp, by omega, ⟨z, c2, hz⟩, by rw [c3]; rfl, by simp, by simp, by simp⟩
  · rintro t hh ⟨k, t1, t2, t3, tv, g1, g4, g5, g63, g64, g65, hk, ⟨z, c2, hz⟩, c3, a1, a2, a3⟩
    by_cases hlt : k < vs.length
    · have hlt' : (k : Int) < (vs.length : Int) := by omega
      have hw : IntKind.i64.wrap ((k : Int) + 1) = ((k + 1 : Nat) : Int) := by rw [w64 (by omega) (by omega)]; omega
      obtain ⟨u, hx⟩ : ∃ u, vs[k]? = some u := ⟨vs[k], by simp [hlt]⟩
      have hst : ∀ {α : Type} (f : PView → Option α), (vs.take (k + 1)).filterMap f = (vs.take k).filterMap f ++ (f u).toList := fun f => by
        rw [List.take_add_one, hx, List.filterMap_append]
        cases hf : f u <;> simp [hf]
      have hlen : ∀ {α : Type} (f : PView → Option α), ((vs.take k).filterMap f).length ≤ 4096 := fun f => by
        have := List.length_filterMap_le f (vs.take k)
        rw [List.length_take] at this; omega
      have hb := hst (bookV l)
      have hc := hst (cellsV l)
      have hi := hst (intentV l)
      have lb := hlen (bookV l)
      have lc := hlen (cellsV l)
      have li := hlen (intentV l)
      have e9 : partL v l (vs.take (k + 1)) = ⟨(vs.take (k + 1)).filterMap (bookV l), (vs.take (k + 1)).filterMap (cellsV l), (vs.take (k + 1)).filterMap (intentV l), heldL v l, incL l, lastL l⟩ := rfl
      have hbk := book12_spec l u hn
      have hce := cells12_spec l u hn
      have hin := intent12_spec l u hn
      unfold partL at c3
      rw [eSt3] at c3
      rw [show bookV l u = if bookL l u = [] then none else some ⟨u, bookL l u⟩ from rfl] at hb
      rw [show cellsV l u = if cellsL l u = [] then none else some ⟨u, cellsL l u⟩ from rfl] at hc
      rw [show intentV l u = (intentL l u).map (fun c => ⟨u, c⟩) from rfl] at hi
      generalize hB : (vs.take k).filterMap (bookV l) = B at *
      generalize hC : (vs.take k).filterMap (cellsV l) = C at *
      generalize hI : (vs.take k).filterMap (intentV l) = I at *
      simp -implicitDefEqProofs [g63, g64, g65, hlt', hx, eV]
      refine allocK.intro (fun b4 hb4 => ?_)
      have n24 : ¬ b2 = b4 := by rintro rfl; rw [c2] at hb4; simp at hb4
      have n42 : ¬ b4 = b2 := fun h => n24 h.symm
      have n34 : ¬ b3 = b4 := by rintro rfl; rw [c3] at hb4; simp at hb4
      have n43 : ¬ b4 = b3 := fun h => n34 h.symm
      simp -implicitDefEqProofs [n34, n43]
      refine regionK.intro 7 follows_mixed (by kernel_rfl) ?_
      simp -implicitDefEqProofs [g1]
      refine CallQ.take2 (x := .sl .no (eEs (bookL l u))) hbk (by simp [eV]) (by rintro _ ⟨tag, rfl⟩; rfl) ?_
      simp -implicitDefEqProofs [g1]
      refine CallQ.take2 (x := .sl .no (eCs (cellsL l u))) hce (by simp [eV]) (by rintro _ ⟨tag, rfl⟩; rfl) ?_
      simp -implicitDefEqProofs [g1, n34, n43]
      intro _
      by_cases hbk0 : bookL l u = []
      · rw [if_pos hbk0] at hb
        simp only [Option.toList_none, List.append_nil] at hb
        simp -implicitDefEqProofs [n24, n42, n34, n43, n23, n32, hbk0]
        intro _
        by_cases hce0 : cellsL l u = []
        · rw [if_pos hce0] at hc
          simp only [Option.toList_none, List.append_nil] at hc
          simp -implicitDefEqProofs [g1, n24, n42, n34, n43, n23, n32, hce0]
          refine CallK.with hin (by simp [eV]) ?_
          cases hic : intentL l u with
          | none =>
            rw [hic] at hi
            simp only [Option.map_none, Option.toList_none, List.append_nil] at hi
            rw [intentA']
            simp -implicitDefEqProofs [n24, n42, n34, n43, n23, n32, eV]
            refine allocK.intro (fun b5 hb5 => ?_)
            have n25 : ¬ b2 = b5 := by rintro rfl; simp [n24, n42, n34, n43, n23, n32, c2] at hb5
            have n52 : ¬ b5 = b2 := fun h => n25 h.symm
            have n35 : ¬ b3 = b5 := by rintro rfl; simp [n24, n42, n34, n43, n23, n32, c3] at hb5
            have n53 : ¬ b5 = b3 := fun h => n35 h.symm
            have n45 : ¬ b4 = b5 := by rintro rfl; simp [n24, n42, n34, n43, n23, n32] at hb5
            have n54 : ¬ b5 = b4 := fun h => n45 h.symm
            simp -implicitDefEqProofs [n24, n42, n34, n43, n23, n32, n25, n52, n35, n53, n45, n54]
            simp -implicitDefEqProofs [g65, hw]
            exact ⟨⟨k + 1, t1, t2, t3, tv, by simp [g1], by simp [g4], by simp [g5], by simp [g63], by simp [g64], by simp, by omega, ⟨z, by simp [n24, n42, n34, n43, n23, n32, n25, n52, n35, n53, n45, n54, c2], hz⟩, by rw [e9, hb, hc, hi]; simp [n24, n42, n34, n43, n23, n32, n25, n52, n35, n53, n45, n54, c3, eSt3, rowsVB, rowsVC, rowsVI, eVB, eVC, eVI], by simp [a1], by simp [a2], by simp [a3]⟩, by omega⟩
          | some c =>
            rw [hic] at hi
            simp only [Option.map_some, Option.toList_some] at hi
            rw [intentA']
            simp -implicitDefEqProofs [n24, n42, n34, n43, n23, n32, eV]
            refine allocK.intro (fun b5 hb5 => ?_)
            have n25 : ¬ b2 = b5 := by rintro rfl; simp [n24, n42, n34, n43, n23, n32, c2] at hb5
            have n52 : ¬ b5 = b2 := fun h => n25 h.symm
            have n35 : ¬ b3 = b5 := by rintro rfl; simp [n24, n42, n34, n43, n23, n32, c3] at hb5
            have n53 : ¬ b5 = b3 := fun h => n35 h.symm
            have n45 : ¬ b4 = b5 := by rintro rfl; simp [n24, n42, n34, n43, n23, n32] at hb5
            have n54 : ¬ b5 = b4 := fun h => n45 h.symm
            simp -implicitDefEqProofs [n24, n42, n34, n43, n23, n32, n25, n52, n35, n53, n45, n54, g5, c3, a3, rowsVI, eV]
            refine ⟨⟨fun _ _ => rfl, by omega⟩, ?_⟩
            simp -implicitDefEqProofs [g65, hw]
            exact ⟨⟨k + 1, t1, t2, appTag t3 93 4 [eVI ⟨u, c⟩], tv, by simp [g1], by simp [g4], by simp [g5], by simp [g63], by simp [g64], by simp, by omega, ⟨z, by simp [n24, n42, n34, n43, n23, n32, n25, n52, n35, n53, n45, n54, c2], hz⟩, by rw [e9, hb, hc, hi]; simp [n24, n42, n34, n43, n23, n32, n25, n52, n35, n53, n45, n54, c3, eSt3, rowsVB, rowsVC, rowsVI, eVB, eVC, eVI], by simp [a1], by simp [a2], by simp [a3]⟩, by omega⟩
        · rw [if_neg hce0] at hc
          simp only [Option.toList_some] at hc
          have hpos : 0 < (cellsL l u).length := List.length_pos_iff.2 hce0
          simp -implicitDefEqProofs [g1, n24, n42, n34, n43, n23, n32, hpos, g5, c3, a2, rowsVC, eV]
          refine ⟨⟨fun _ _ => rfl, by omega⟩, ?_⟩
          refine CallK.with hin (by simp [eV]) ?_
          cases hic : intentL l u with
          | none =>
            rw [hic] at hi
            simp only [Option.map_none, Option.toList_none, List.append_nil] at hi
            rw [intentA']
            simp -implicitDefEqProofs [n24, n42, n34, n43, n23, n32, eV]
            refine allocK.intro (fun b5 hb5 => ?_)
            have n25 : ¬ b2 = b5 := by rintro rfl; simp [n24, n42, n34, n43, n23, n32, c2] at hb5
            have n52 : ¬ b5 = b2 := fun h => n25 h.symm
            have n35 : ¬ b3 = b5 := by rintro rfl; simp [n24, n42, n34, n43, n23, n32, c3] at hb5
            have n53 : ¬ b5 = b3 := fun h => n35 h.symm
            have n45 : ¬ b4 = b5 := by rintro rfl; simp [n24, n42, n34, n43, n23, n32] at hb5
            have n54 : ¬ b5 = b4 := fun h => n45 h.symm
            simp -implicitDefEqProofs [n24, n42, n34, n43, n23, n32, n25, n52, n35, n53, n45, n54]
            simp -implicitDefEqProofs [g65, hw]
            exact ⟨⟨k + 1, t1, appTag t2 91 3 [eVC ⟨u, cellsL l u⟩], t3, tv, by simp [g1], by simp [g4], by simp [g5], by simp [g63], by simp [g64], by simp, by omega, ⟨z, by simp [n24, n42, n34, n43, n23, n32, n25, n52, n35, n53, n45, n54, c2], hz⟩, by rw [e9, hb, hc, hi]; simp [n24, n42, n34, n43, n23, n32, n25, n52, n35, n53, n45, n54, c3, eSt3, rowsVB, rowsVC, rowsVI, eVB, eVC, eVI], by simp [a1], by simp [a2], by simp [a3]⟩, by omega⟩
          | some c =>
            rw [hic] at hi
            simp only [Option.map_some, Option.toList_some] at hi
            rw [intentA']
            simp -implicitDefEqProofs [n24, n42, n34, n43, n23, n32, eV]
            refine allocK.intro (fun b5 hb5 => ?_)
            have n25 : ¬ b2 = b5 := by rintro rfl; simp [n24, n42, n34, n43, n23, n32, c2] at hb5
            have n52 : ¬ b5 = b2 := fun h => n25 h.symm
            have n35 : ¬ b3 = b5 := by rintro rfl; simp [n24, n42, n34, n43, n23, n32, c3] at hb5
            have n53 : ¬ b5 = b3 := fun h => n35 h.symm
            have n45 : ¬ b4 = b5 := by rintro rfl; simp [n24, n42, n34, n43, n23, n32] at hb5
            have n54 : ¬ b5 = b4 := fun h => n45 h.symm
            simp -implicitDefEqProofs [n24, n42, n34, n43, n23, n32, n25, n52, n35, n53, n45, n54, g5, c3, a3, rowsVI, eV]
            refine ⟨⟨fun _ _ => rfl, by omega⟩, ?_⟩
            simp -implicitDefEqProofs [g65, hw]
            exact ⟨⟨k + 1, t1, appTag t2 91 3 [eVC ⟨u, cellsL l u⟩], appTag t3 93 4 [eVI ⟨u, c⟩], tv, by simp [g1], by simp [g4], by simp [g5], by simp [g63], by simp [g64], by simp, by omega, ⟨z, by simp [n24, n42, n34, n43, n23, n32, n25, n52, n35, n53, n45, n54, c2], hz⟩, by rw [e9, hb, hc, hi]; simp [n24, n42, n34, n43, n23, n32, n25, n52, n35, n53, n45, n54, c3, eSt3, rowsVB, rowsVC, rowsVI, eVB, eVC, eVI], by simp [a1], by simp [a2], by simp [a3]⟩, by omega⟩
      · rw [if_neg hbk0] at hb
        simp only [Option.toList_some] at hb
        have hpos1 : 0 < (bookL l u).length := List.length_pos_iff.2 hbk0
        simp -implicitDefEqProofs [n24, n42, n34, n43, n23, n32, hpos1, g5, c3, a1, rowsVB, eV]
        refine ⟨⟨fun _ _ => rfl, by omega⟩, ?_⟩
        intro _
        by_cases hce0 : cellsL l u = []
        · rw [if_pos hce0] at hc
          simp only [Option.toList_none, List.append_nil] at hc
          simp -implicitDefEqProofs [g1, n24, n42, n34, n43, n23, n32, hce0]
          refine CallK.with hin (by simp [eV]) ?_
          cases hic : intentL l u with
          | none =>
            rw [hic] at hi
            simp only [Option.map_none, Option.toList_none, List.append_nil] at hi
            rw [intentA']
            simp -implicitDefEqProofs [n24, n42, n34, n43, n23, n32, eV]
            refine allocK.intro (fun b5 hb5 => ?_)
            have n25 : ¬ b2 = b5 := by rintro rfl; simp [n24, n42, n34, n43, n23, n32, c2] at hb5
            have n52 : ¬ b5 = b2 := fun h => n25 h.symm
            have n35 : ¬ b3 = b5 := by rintro rfl; simp [n24, n42, n34, n43, n23, n32, c3] at hb5
            have n53 : ¬ b5 = b3 := fun h => n35 h.symm
            have n45 : ¬ b4 = b5 := by rintro rfl; simp [n24, n42, n34, n43, n23, n32] at hb5
            have n54 : ¬ b5 = b4 := fun h => n45 h.symm
            simp -implicitDefEqProofs [n24, n42, n34, n43, n23, n32, n25, n52, n35, n53, n45, n54]
            simp -implicitDefEqProofs [g65, hw]
            exact ⟨⟨k + 1, appTag t1 89 3 [eVB ⟨u, bookL l u⟩], t2, t3, tv, by simp [g1], by simp [g4], by simp [g5], by simp [g63], by simp [g64], by simp, by omega, ⟨z, by simp [n24, n42, n34, n43, n23, n32, n25, n52, n35, n53, n45, n54, c2], hz⟩, by rw [e9, hb, hc, hi]; simp [n24, n42, n34, n43, n23, n32, n25, n52, n35, n53, n45, n54, c3, eSt3, rowsVB, rowsVC, rowsVI, eVB, eVC, eVI], by simp [a1], by simp [a2], by simp [a3]⟩, by omega⟩
          | some c =>
            rw [hic] at hi
            simp only [Option.map_some, Option.toList_some] at hi
            rw [intentA']
            simp -implicitDefEqProofs [n24, n42, n34, n43, n23, n32, eV]
            refine allocK.intro (fun b5 hb5 => ?_)
            have n25 : ¬ b2 = b5 := by rintro rfl; simp [n24, n42, n34, n43, n23, n32, c2] at hb5
            have n52 : ¬ b5 = b2 := fun h => n25 h.symm
            have n35 : ¬ b3 = b5 := by rintro rfl; simp [n24, n42, n34, n43, n23, n32, c3] at hb5
            have n53 : ¬ b5 = b3 := fun h => n35 h.symm
            have n45 : ¬ b4 = b5 := by rintro rfl; simp [n24, n42, n34, n43, n23, n32] at hb5
            have n54 : ¬ b5 = b4 := fun h => n45 h.symm
            simp -implicitDefEqProofs [n24, n42, n34, n43, n23, n32, n25, n52, n35, n53, n45, n54, g5, c3, a3, rowsVI, eV]
            refine ⟨⟨fun _ _ => rfl, by omega⟩, ?_⟩
            simp -implicitDefEqProofs [g65, hw]
            exact ⟨⟨k + 1, appTag t1 89 3 [eVB ⟨u, bookL l u⟩], t2, appTag t3 93 4 [eVI ⟨u, c⟩], tv, by simp [g1], by simp [g4], by simp [g5], by simp [g63], by simp [g64], by simp, by omega, ⟨z, by simp [n24, n42, n34, n43, n23, n32, n25, n52, n35, n53, n45, n54, c2], hz⟩, by rw [e9, hb, hc, hi]; simp [n24, n42, n34, n43, n23, n32, n25, n52, n35, n53, n45, n54, c3, eSt3, rowsVB, rowsVC, rowsVI, eVB, eVC, eVI], by simp [a1], by simp [a2], by simp [a3]⟩, by omega⟩
        · rw [if_neg hce0] at hc
          simp only [Option.toList_some] at hc
          have hpos : 0 < (cellsL l u).length := List.length_pos_iff.2 hce0
          simp -implicitDefEqProofs [g1, n24, n42, n34, n43, n23, n32, hpos, g5, c3, a2, rowsVC, eV]
          refine ⟨⟨fun _ _ => rfl, by omega⟩, ?_⟩
          refine CallK.with hin (by simp [eV]) ?_
          cases hic : intentL l u with
          | none =>
            rw [hic] at hi
            simp only [Option.map_none, Option.toList_none, List.append_nil] at hi
            rw [intentA']
            simp -implicitDefEqProofs [n24, n42, n34, n43, n23, n32, eV]
            refine allocK.intro (fun b5 hb5 => ?_)
            have n25 : ¬ b2 = b5 := by rintro rfl; simp [n24, n42, n34, n43, n23, n32, c2] at hb5
            have n52 : ¬ b5 = b2 := fun h => n25 h.symm
            have n35 : ¬ b3 = b5 := by rintro rfl; simp [n24, n42, n34, n43, n23, n32, c3] at hb5
            have n53 : ¬ b5 = b3 := fun h => n35 h.symm
            have n45 : ¬ b4 = b5 := by rintro rfl; simp [n24, n42, n34, n43, n23, n32] at hb5
            have n54 : ¬ b5 = b4 := fun h => n45 h.symm
            simp -implicitDefEqProofs [n24, n42, n34, n43, n23, n32, n25, n52, n35, n53, n45, n54]
            simp -implicitDefEqProofs [g65, hw]
            exact ⟨⟨k + 1, appTag t1 89 3 [eVB ⟨u, bookL l u⟩], appTag t2 91 3 [eVC ⟨u, cellsL l u⟩], t3, tv, by simp [g1], by simp [g4], by simp [g5], by simp [g63], by simp [g64], by simp, by omega, ⟨z, by simp [n24, n42, n34, n43, n23, n32, n25, n52, n35, n53, n45, n54, c2], hz⟩, by rw [e9, hb, hc, hi]; simp [n24, n42, n34, n43, n23, n32, n25, n52, n35, n53, n45, n54, c3, eSt3, rowsVB, rowsVC, rowsVI, eVB, eVC, eVI], by simp [a1], by simp [a2], by simp [a3]⟩, by omega⟩
          | some c =>
            rw [hic] at hi
            simp only [Option.map_some, Option.toList_some] at hi
            rw [intentA']
            simp -implicitDefEqProofs [n24, n42, n34, n43, n23, n32, eV]
            refine allocK.intro (fun b5 hb5 => ?_)
            have n25 : ¬ b2 = b5 := by rintro rfl; simp [n24, n42, n34, n43, n23, n32, c2] at hb5
            have n52 : ¬ b5 = b2 := fun h => n25 h.symm
            have n35 : ¬ b3 = b5 := by rintro rfl; simp [n24, n42, n34, n43, n23, n32, c3] at hb5
            have n53 : ¬ b5 = b3 := fun h => n35 h.symm
            have n45 : ¬ b4 = b5 := by rintro rfl; simp [n24, n42, n34, n43, n23, n32] at hb5
            have n54 : ¬ b5 = b4 := fun h => n45 h.symm
            simp -implicitDefEqProofs [n24, n42, n34, n43, n23, n32, n25, n52, n35, n53, n45, n54, g5, c3, a3, rowsVI, eV]
            refine ⟨⟨fun _ _ => rfl, by omega⟩, ?_⟩
            simp -implicitDefEqProofs [g65, hw]
            exact ⟨⟨k + 1, appTag t1 89 3 [eVB ⟨u, bookL l u⟩], appTag t2 91 3 [eVC ⟨u, cellsL l u⟩], appTag t3 93 4 [eVI ⟨u, c⟩], tv, by simp [g1], by simp [g4], by simp [g5], by simp [g63], by simp [g64], by simp, by omega, ⟨z, by simp [n24, n42, n34, n43, n23, n32, n25, n52, n35, n53, n45, n54, c2], hz⟩, by rw [e9, hb, hc, hi]; simp [n24, n42, n34, n43, n23, n32, n25, n52, n35, n53, n45, n54, c3, eSt3, rowsVB, rowsVC, rowsVI, eVB, eVC, eVI], by simp [a1], by simp [a2], by simp [a3]⟩, by omega⟩
    · have hlt' : ¬ (k : Int) < (vs.length : Int) := by omega
      rw [List.take_of_length_le (by omega)] at c3
      simp -implicitDefEqProofs [g64, g65, hlt']
      exact ⟨t1, t2, t3, by simp [g4], by simp [g5], ⟨z, c2, hz⟩, c3⟩
  rintro t hh ⟨t1, t2, t3, g4, g5, ⟨z, c2, hz⟩, c3⟩
  have e9 : partL v l vs = ⟨vs.filterMap (bookV l), vs.filterMap (cellsV l), vs.filterMap (intentV l), heldL v l, incL l, lastL l⟩ := rfl
  rw [e9] at c3
  rw [eSt3] at c3
  simp -implicitDefEqProofs [g4, g5, c2, hz, c3, n23, n32, eSt, rowsVB, rowsVC, rowsVI]
end Go.Proofs.YtjbbfiagijjdoaaGreat

/- Contracts: what a node answers. No condition. -/
set_option linter.unusedSimpArgs false
set_option linter.unusedVariables false
set_option maxRecDepth 10000
namespace Go.Proofs.YtjbbfiagijjdoaaGreat
open Go Go.Rw Go.Proofs
-- a goal is never to be run by the elaborator
attribute [local irreducible] awp aops aop aopsE aeff

def eMq (t1 t2 : Tag) (m : PMsg) : List AV := [eI m.kind, eI m.frm, eI m.to, eI m.inc, eI m.seq, eI m.view.add, eI m.view.del, .sl t1 (eCs m.cells), .sl t2 (eEs m.book)]
/-- what a node answers, as a caller has it -/
def serveA (me : Int) (s : PState) (q : PMsg) : AV := .tup [.sl .no (eRs (recsS me s q)), .agg (eM (answerS me s q)), .v (.bool (servable me q))]
def ServeR (me : Int) (s : PState) (q : PMsg) (r : AV) : Prop := r = serveA me s q
theorem servable_no {me : Int} {q : PMsg} (h : ¬ (q.to = me ∧ 0 ≤ q.kind ∧ q.kind ≤ 4)) : servable me q = false := by
  unfold servable
  rw [Bool.and_eq_false_iff, decide_eq_false_iff_not, decide_eq_false_iff_not]
  by_cases h1 : q.to = me
  · exact .inr fun h2 => h ⟨h1, h2⟩
  · exact .inl h1
theorem ServeR.no {me : Int} {s : PState} {q : PMsg} (h : ¬ (q.to = me ∧ 0 ≤ q.kind ∧ q.kind ≤ 4)) : ServeR me s q (.tup [.sl .no [], .agg [eI 0, eI 0, eI 0, eI 0, eI 0, eI 0, eI 0, .sl .no [], .sl .no []], .v (.bool false)]) := by
  unfold ServeR
  rw [serveA, recsS, answerS, servable_no h]
  rfl
theorem ServeR.yes {me : Int} {s : PState} {q : PMsg} (h : q.to = me) (h1 : 0 ≤ q.kind) (h2 : q.kind ≤ 4) {r : AV} (hr : r = .tup [.sl .no (eRs (wroteS s q)), .agg (eM (tellS me s q)), .v (.bool true)]) : ServeR me s q r := by
  have e : servable me q = true := by simp [servable, h, h1, h2]
  unfold ServeR
  rw [serveA, recsS, answerS, e]
  exact hr
def SvM (me : Int) (s : PState) (q : PMsg) (b3 b4 : Nat) (t : Nat → AV) (h : Nat → Option (List AV)) : Prop := ∃ tag : Tag, t 7 = .ptr b3 0 ∧ t 10 = .ptr b4 0 ∧ t 9 = .sl tag (eRs (wroteS s q)) ∧ (∃ z, h b3 = some z ∧ z.length = 9) ∧ h b4 = some (eMq .nil .nil (ansM me q))
def SvC (me : Int) (s : PState) (q : PMsg) (l : List PCell) (b2 b3 b4 : Nat) (t : Nat → AV) (h : Nat → Option (List AV)) : Prop := ∃ (k : Nat) (tag : Tag), t 5 = .ptr b2 0 ∧ t 7 = .ptr b3 0 ∧ t 10 = .ptr b4 0 ∧ t 9 = .sl tag (eRs ((l.take k).map (recC q.view))) ∧ appOK tag 66 11 ∧ t 57 = .sl .no (eCs l) ∧ t 58 = eI l.length ∧ t 59 = eI k ∧ k ≤ l.length ∧ h b2 = some (eM q) ∧ (∃ z, h b3 = some z ∧ z.length = 9) ∧ h b4 = some (eMq .nil .nil (ansM me q))
def SvE (me : Int) (s : PState) (q : PMsg) (l : List PEntry) (b2 b3 b4 : Nat) (t : Nat → AV) (h : Nat → Option (List AV)) : Prop := ∃ (k : Nat) (tag : Tag), t 5 = .ptr b2 0 ∧ t 7 = .ptr b3 0 ∧ t 10 = .ptr b4 0 ∧ t 9 = .sl tag (eRs ((l.take k).map (recE q.view))) ∧ appOK tag 66 11 ∧ t 79 = .sl .no (eEs l) ∧ t 80 = eI l.length ∧ t 81 = eI k ∧ k ≤ l.length ∧ h b2 = some (eM q) ∧ (∃ z, h b3 = some z ∧ z.length = 9) ∧ h b4 = some (eMq .nil .nil (ansM me q))
end Go.Proofs.YtjbbfiagijjdoaaGreat

/- Plain laws: logs there and back. No condition. -/
set_option linter.unusedSimpArgs false
set_option linter.unusedVariables false
namespace Go.Proofs.YtjbbfiagijjdoaaGreat
open Go Go.Rw Go.Proofs

def fitR (r : PRec) : Prop := r.entry.value < 18446744073709551616
def recsB (l : List PRec) : List UInt8 := l.flatMap recB
@[simp] theorem recsB_nil : recsB [] = [] := rfl
end Go.Proofs.YtjbbfiagijjdoaaGreat

/- Contracts: texts; records. No condition. -/
set_option linter.unusedSimpArgs false
set_option linter.unusedVariables false
set_option maxRecDepth 10000
namespace Go.Proofs.YtjbbfiagijjdoaaGreat
open Go Go.Rw Go.Proofs
-- a goal is never to be run by the elaborator
attribute [local irreducible] awp aops aop aopsE aeff

@[simp] theorem take_len_drop {α : Type} (l : List α) (n : Nat) : (l.drop n).take (l.length - n) = l.drop n := List.take_of_length_le (by simp)
def textA (b t : List UInt8) : AV := if 4000 < t.length then .tup [.sl .no [], eI 21] else .tup [.sl .no (eB (b ++ formF t.length ++ t)), eI 0]
def cutA (o : Option (List UInt8 × List UInt8)) : AV := match o with
  | some (t, r) => .tup [.sl .no (eB t), .sl .no (eB r), eI 0]
  | none => .tup [.sl .no [], .sl .no [], eI 21]
end Go.Proofs.YtjbbfiagijjdoaaGreat

/- Contracts: which records can be, and their bytes. No condition. -/
set_option linter.unusedSimpArgs false
set_option linter.unusedVariables false
set_option maxRecDepth 10000
namespace Go.Proofs.YtjbbfiagijjdoaaGreat
open Go Go.Rw Go.Proofs
-- a goal is never to be run by the elaborator
attribute [local irreducible] awp aops aop aopsE aeff

end Go.Proofs.YtjbbfiagijjdoaaGreat

/- Contracts: records as numbers and bytes. No condition. -/
set_option linter.unusedSimpArgs false
set_option linter.unusedVariables false
set_option maxRecDepth 10000
namespace Go.Proofs.YtjbbfiagijjdoaaGreat
open Go Go.Rw Go.Proofs

def Nums (r : PRec) (x : AV) : Prop := ∃ tag, x = .sl tag (eU (numsR r))
def bytesA (o : Option (List UInt8)) : AV := match o with
  | some l => .tup [.sl .no (eB l), eI 0]
  | none => .tup [.sl .no [], eI 91]
end Go.Proofs.YtjbbfiagijjdoaaGreat

/- Contracts: records are read. No condition. -/
set_option linter.unusedSimpArgs false
set_option linter.unusedVariables false
set_option maxRecDepth 10000
namespace Go.Proofs.YtjbbfiagijjdoaaGreat
open Go Go.Rw Go.Proofs

def viewA (n : Nat) : AV := .tup [.agg (eV ((nmdV n).getD zV)), .v (.bool (nmdV n).isSome)]
/-- what is read: a record, if it can be -/
def OptR (o : Option PRec) (x : AV) : Prop := ∃ r, x = .tup [.agg (eRc r), .v (.bool o.isSome)] ∧ ∀ r', o = some r' → r' = r
end Go.Proofs.YtjbbfiagijjdoaaGreat

/- Contracts: log.one, log.Scan, log.Same. No condition. -/
set_option linter.unusedSimpArgs false
set_option linter.unusedVariables false
set_option maxRecDepth 10000
namespace Go.Proofs.YtjbbfiagijjdoaaGreat
open Go Go.Rw Go.Proofs

def LoneI (t0 body : List UInt8) (b : Nat) (t : Nat → AV) (h : Nat → Option (List AV)) : Prop := ∃ (k : Nat) (rest : List UInt8) (cur : List Nat) (tag : Tag), t 0 = .sl .no (eB t0) ∧ t 2 = .ptr b 0 ∧ t 4 = .sl .no (eB rest) ∧ t 6 = .sl tag (eU cur) ∧ appOK tag 166 1 ∧
  h b = some (eRc zR) ∧ rest.length ≤ k ∧ rest.length + cur.length ≤ body.length ∧ allF body = (getsF k rest).map (cur ++ ·)
def LoneM (body : List UInt8) (b : Nat) (t : Nat → AV) (h : Nat → Option (List AV)) : Prop := ∃ (cur : List Nat) (tag : Tag), t 2 = .ptr b 0 ∧ t 6 = .sl tag (eU cur) ∧ h b = some (eRc zR) ∧ allF body = some cur
def scanA (b : List UInt8) : AV := .tup [.sl .no (eRs (scanR b).1), eI (scanR b).2]
def ScI (b : List UInt8) (t : Nat → AV) (h : Nat → Option (List AV)) : Prop := ∃ (n : Nat) (cur : List PRec) (tag : Tag), t 0 = .sl .no (eB b) ∧ t 4 = .sl tag (eRs cur) ∧ t 5 = eI n ∧ appOK tag 66 11 ∧ n ≤ b.length ∧ cur.length ≤ n ∧
  scanR b = (cur ++ (scanR (b.drop n)).1, n + (scanR (b.drop n)).2)
def ScM (b : List UInt8) (t : Nat → AV) (h : Nat → Option (List AV)) : Prop := ∃ tag, t 4 = .sl tag (eRs (scanR b).1) ∧ t 5 = eI (scanR b).2
end Go.Proofs.YtjbbfiagijjdoaaGreat

/- Contracts: log.Same. No condition. -/
set_option linter.unusedSimpArgs false
set_option linter.unusedVariables false
set_option maxRecDepth 10000
namespace Go.Proofs.YtjbbfiagijjdoaaGreat
open Go Go.Rw Go.Proofs

def EqrI (a b : List PRec) (t : Nat → AV) (_ : Nat → Option (List AV)) : Prop := ∃ k : Nat, t 15 = .sl .no (eRs a) ∧ t 1 = .sl .no (eRs b) ∧ t 2 = .fn 129 [] ∧ t 16 = .v (.int .i64 a.length) ∧ t 17 = .v (.int .i64 k) ∧ k ≤ a.length ∧ sameRs (a.drop k) (b.drop k) = sameRs a b

end Go.Proofs.YtjbbfiagijjdoaaGreat

/- Plain: whether a record can be, told otherwise. -/
set_option linter.unusedSimpArgs false
set_option linter.unusedVariables false
set_option maxRecDepth 10000
namespace Go.Proofs.YtjbbfiagijjdoaaGreat
open Go Go.Rw Go.Proofs

def chg9 (r : PRec) : Bool := rightV r.cell.change && !decide (r.cell.change = zV)
def right9F (r : PRec) : Bool :=
  if r.kind = 1 then rightV r.view && checkE (-1) [r.entry] && sameR ⟨0, zV, r.cell, zE, r.n⟩ zR
  else if r.kind = 2 then rightV r.view && chg9 r && decide (0 ≤ r.cell.node ∧ r.cell.node ≤ 5) && sameR ⟨0, zV, zC, r.entry, r.n⟩ zR
  else if r.kind = 3 then rightV r.view && sameR ⟨0, zV, r.cell, r.entry, r.n⟩ zR
  else if r.kind = 4 ∨ r.kind = 6 then decide (1 ≤ r.n ∧ r.n ≤ 1000000) && sameR ⟨0, r.view, r.cell, r.entry, 0⟩ zR
  else if r.kind = 5 then rightV r.view && chg9 r && sameR ⟨0, zV, ⟨r.cell.node, zV⟩, r.entry, r.n⟩ zR
  else false
theorem sizeV_pos {v : PView} (h : rightV v = true) : 0 < sizeV v ↔ ¬ v = zV := by
  have e : sizeV v = (popN 64 v.add.toNat : Int) + popN 64 v.del.toNat := by unfold sizeV; rfl
  have h0 : 0 ≤ sizeV v := by rw [e]; omega
  have hz := sizeV_zero h
  obtain ⟨a, b⟩ := v
  constructor
  · rintro h1 h2
    cases h2
    have := hz.2 ⟨rfl, rfl⟩
    omega
  · intro h1
    have : ¬ sizeV ⟨a, b⟩ = 0 := fun h2 => h1 (by obtain ⟨h3, h4⟩ := hz.1 h2; simp at h3 h4; rw [h3, h4]; rfl)
    omega
theorem right9_eq (r : PRec) : right9F r = rightR r := by
  obtain ⟨k, v, ⟨cn, cc⟩, e, n⟩ := r
  rw [Bool.eq_iff_iff]
  unfold right9F rightR chg9
  by_cases k1 : k = 1
  · subst k1
    simp [sameR_iff, sameE_zero, zR, bareR, sameE_iff]
    constructor
    · rintro ⟨⟨h1, h2⟩, h3, h4⟩
      cases h3
      exact ⟨⟨⟨⟨⟨rfl, h4⟩, h1⟩, rightV_zero⟩, by omega, by omega⟩, h2⟩
    · rintro ⟨⟨⟨⟨⟨h3, h4⟩, h1⟩, _⟩, _⟩, h2⟩
      exact ⟨⟨h1, h2⟩, h3, h4⟩
  by_cases k2 : k = 2
  · subst k2
    by_cases hc : rightV cc = true
    · have hp := sizeV_pos hc
      simp [sameR_iff, sameE_zero, zR, bareR, sameE_iff, hc, hp]
      constructor
      · rintro ⟨⟨⟨h1, h2⟩, h3, h4⟩, h5, h6⟩
        exact ⟨⟨⟨⟨h5, h6⟩, h1⟩, h3, by omega⟩, h2⟩
      · rintro ⟨⟨⟨⟨h5, h6⟩, h1⟩, h3, h4⟩, h2⟩
        exact ⟨⟨⟨h1, h2⟩, h3, by omega⟩, h5, h6⟩
    · simp [hc]
  by_cases k3 : k = 3
  · subst k3
    simp [sameR_iff, sameE_zero, zR, bareR, sameE_iff]
    constructor
    · rintro ⟨h1, h2, h3⟩
      cases h2
      exact ⟨⟨⟨⟨rfl, h3⟩, h1⟩, rightV_zero⟩, by omega, by omega⟩
    · rintro ⟨⟨⟨⟨h2, h3⟩, h1⟩, _⟩, _⟩
      exact ⟨h1, h2, h3⟩
  by_cases k46 : k = 4 ∨ k = 6
  · have k5 : ¬ k = 5 := by omega
    simp [sameR_iff, sameE_zero, zR, bareR, sameE_iff, k1, k2, k3, k5, k46]
    constructor
    · rintro ⟨h1, h2, h3, h4⟩
      cases h3
      cases h2
      exact ⟨⟨⟨⟨⟨by omega, rfl, rfl, h4⟩, rightV_zero⟩, rightV_zero⟩, by omega, by omega⟩, h1⟩
    · rintro ⟨⟨⟨⟨⟨_, h2, h3, h4⟩, _⟩, _⟩, _⟩, h1⟩
      exact ⟨h1, h2, h3, h4⟩
  by_cases k5 : k = 5
  · subst k5
    by_cases hc : rightV cc = true
    · have hp := sizeV_pos hc
      simp [sameR_iff, sameE_zero, zR, bareR, sameE_iff, hc, hp]
      constructor
      · rintro ⟨⟨h1, h2⟩, h3, h4⟩
        cases h3
        exact ⟨⟨⟨⟨rfl, h4⟩, h1⟩, by omega, by omega⟩, h2⟩
      · rintro ⟨⟨⟨⟨rfl, h4⟩, h1⟩, _⟩, h2⟩
        exact ⟨⟨h1, h2⟩, rfl, h4⟩
    · simp [hc]
  · have : ¬ (1 ≤ k ∧ k ≤ 6) := by omega
    simp only [if_neg k1, if_neg k2, if_neg k3, if_neg k46, if_neg k5, decide_eq_false this, Bool.false_and]
end Go.Proofs.YtjbbfiagijjdoaaGreat

/- Contracts: records, told otherwise: alike, Same. No condition. -/
set_option linter.unusedSimpArgs false
set_option linter.unusedVariables false
set_option maxRecDepth 10000
namespace Go.Proofs.YtjbbfiagijjdoaaGreat
open Go Go.Rw Go.Proofs
-- a goal is never to be run by the elaborator
attribute [local irreducible] awp aops aop aopsE aeff

theorem alike9_spec (a b : PRec) (ha : fitR a) (hb : fitR b) : ASpec Tryz.prog 78 [.agg (eRc a), .agg (eRc b)] (· = .v (.bool (sameR a b))) := by
  refine ASpec.of_awp Tryz.func78 (by kernel_rfl) rfl (by rw [Tryz.results78]) Tryz.ntmps78 ?_
  simp -implicitDefEqProofs [eRc]
  refine allocK.intro (fun b1 hb1 => ?_)
  simp -implicitDefEqProofs
  refine allocK.intro (fun b2 hb2 => ?_)
  have hbb : ¬ b1 = b2 := by rintro rfl; simp at hb2
  have hbb' : ¬ b2 = b1 := fun h => hbb h.symm
  by_cases h1 : a.kind = b.kind
  · by_cases h2 : a.view.add = b.view.add ∧ a.view.del = b.view.del
    · obtain ⟨h2, h3⟩ := h2
      by_cases h4 : a.cell.node = b.cell.node ∧ a.cell.change.add = b.cell.change.add ∧ a.cell.change.del = b.cell.change.del
      · obtain ⟨h4, h5, h6⟩ := h4
        by_cases h7 : a.n = b.n
        · simp -implicitDefEqProofs [hbb, hbb', h1, h2, h3, h4, h5, h6, h7]
          refine CallK.with (alike7_spec a.entry b.entry ha hb) (by simp [eE]) ?_
          simp -implicitDefEqProofs [hbb, hbb', h1, h2, h3, h4, h5, h6, h7, sameR]
        · simp -implicitDefEqProofs [hbb, hbb', h1, h2, h3, h4, h5, h6, h7, sameR]
      · have h4' : sameR a b = false := by
          by_cases q : a.cell.node = b.cell.node
          · by_cases q2 : a.cell.change.add = b.cell.change.add
            · have q3 : ¬ a.cell.change.del = b.cell.change.del := fun q3 => h4 ⟨q, q2, q3⟩
              simp [sameR, q3]
            · simp [sameR, q2]
          · simp [sameR, q]
        have h4'' : (a.cell.node == b.cell.node && (a.cell.change.add == b.cell.change.add && a.cell.change.del == b.cell.change.del)) = false := by simpa using h4
        simp -implicitDefEqProofs [hbb, hbb', h1, h2, h3, h4', h4'']
    · have h4' : sameR a b = false := by
        by_cases q : a.view.add = b.view.add
        · have q3 : ¬ a.view.del = b.view.del := fun q3 => h2 ⟨q, q3⟩
          simp [sameR, q3]
        · simp [sameR, q]
      have h4'' : (a.view.add == b.view.add && a.view.del == b.view.del) = false := by simpa using h2
      simp -implicitDefEqProofs [hbb, hbb', h1, h4', h4'']
  · simp -implicitDefEqProofs [hbb, hbb', h1, sameR]

def S9I (a b : List PRec) (t : Nat → AV) (_ : Nat → Option (List AV)) : Prop := ∃ k : Nat, t 0 = .sl .no (eRs a) ∧ t 1 = .sl .no (eRs b) ∧ t 12 = eI a.length ∧ t 13 = eI k ∧ k ≤ a.length ∧ sameRs (a.drop k) (b.drop k) = sameRs a b
theorem fitR_zero : fitR zR := by simp [fitR, zR, zE]
theorem seq_cut {P : Program} {x y : Code} {n : Nat} {t : Nat → AV} {h : Nat → Option (List AV)} {Q : AExit → ASt → Prop} (M : (Nat → AV) → (Nat → Option (List AV)) → Prop) (hx : awp P x (cutQ M n Q) ⟨n, t, h⟩)
    (hy : ∀ t h, M t h → awp P y Q ⟨n, t, h⟩) : awp P (.seq x y) Q ⟨n, t, h⟩ := by
  rw [awp_seqQ]
  exact awp_mono x (cutQ_use hy) hx
theorem chg_ne (v : PView) : (!v.add == 0 || !v.del == 0) = !decide (v = zV) := by
  obtain ⟨a, b⟩ := v
  by_cases h1 : a = 0 <;> by_cases h2 : b = 0 <;> simp [zV, h1, h2]
def R9N (r : PRec) (b1 : Nat) (t : Nat → AV) (h : Nat → Option (List AV)) : Prop := t 1 = .ptr b1 0 ∧ h b1 = some (eRc r) ∧ t 3 = .v (.bool (rightV r.view)) ∧ t 4 = .v (.bool (chg9 r)) ∧ t 5 = .v (.bool (decide (0 ≤ r.cell.node ∧ r.cell.node ≤ 5)))
def R9O (r : PRec) (b1 : Nat) (t : Nat → AV) (h : Nat → Option (List AV)) : Prop := t 1 = .ptr b1 0 ∧ h b1 = some (eRc r) ∧ t 3 = .v (.bool (rightV r.view)) ∧ t 4 = .v (.bool (chg9 r)) ∧ t 5 = .v (.bool (decide (0 ≤ r.cell.node ∧ r.cell.node ≤ 5))) ∧ t 6 = .v (.bool (decide (1 ≤ r.n ∧ r.n ≤ 1000000)))
def R9M (r : PRec) (b1 : Nat) (t : Nat → AV) (h : Nat → Option (List AV)) : Prop := t 1 = .ptr b1 0 ∧ h b1 = some (eRc r) ∧ t 3 = .v (.bool (rightV r.view)) ∧ t 4 = .v (.bool (chg9 r))
theorem right9_spec (r : PRec) (hf : fitR r) : ASpec Tryz.prog 49 [.agg (eRc r)] (· = .v (.bool (right9F r))) := by
  refine ASpec.of_awp Tryz.func49 (by kernel_rfl) rfl (by rw [Tryz.results49]) Tryz.ntmps49 ?_
  simp -implicitDefEqProofs [eRc]
  refine allocK.intro (fun b1 hb1 => ?_)
  simp -implicitDefEqProofs
  refine regionK.cut (R9M r b1) ?_ ?_
  · refine regionK.intro 15 follows_mixed (by kernel_rfl) ?_
    simp -implicitDefEqProofs
    refine CallQ.with (right4_spec r.view) (by simp [eV]) ?_
    simp -implicitDefEqProofs
    refine CallQ.with (right4_spec r.cell.change) (by simp [eV]) ?_
    cases hc : rightV r.cell.change
    · simp -implicitDefEqProofs
      exact ⟨by simp, by simp [eRc], by simp, by simp [chg9, hc]⟩
    · simp -implicitDefEqProofs
      exact ⟨by simp, by simp [eRc], by simp, by simp [chg9, hc]; exact chg_ne _⟩
  · rintro t h ⟨g1, gh, g3, g4⟩
    refine seq_cut (R9N r b1) ?_ ?_
    · rw [eRc] at gh
      by_cases n1 : 0 ≤ r.cell.node
      · simp -implicitDefEqProofs [g1, gh, n1]
        exact ⟨by simp [g1], by simp [gh, eRc], by simp [g3], by simp [g4], by simp [n1]⟩
      · simp -implicitDefEqProofs [g1, gh, n1]
        exact ⟨by simp [g1], by simp [gh, eRc], by simp [g3], by simp [g4], by simp [n1]⟩
    rintro t h ⟨g1, gh, g3, g4, g5⟩
    refine seq_cut (R9O r b1) ?_ ?_
    · rw [eRc] at gh
      by_cases n1 : 1 ≤ r.n
      · simp -implicitDefEqProofs [g1, gh, n1]
        exact ⟨by simp [g1], by simp [gh, eRc], by simp [g3], by simp [g4], by simp [g5], by simp [n1]⟩
      · simp -implicitDefEqProofs [g1, gh, n1]
        exact ⟨by simp [g1], by simp [gh, eRc], by simp [g3], by simp [g4], by simp [g5], by simp [n1]⟩
    rintro t h ⟨g1, gh, g3, g4, g5, g6⟩
    rw [eRc] at gh
    simp -implicitDefEqProofs [g1, gh, g3, g4, g5, g6]
    refine allocK.intro (fun b2 hb2 => ?_)
    have n1 : ¬ b1 = b2 := by rintro rfl; rw [gh] at hb2; simp at hb2
    have n1' : ¬ b2 = b1 := fun h => n1 h.symm
    by_cases k1 : r.kind = 1
    · have e : right9F r = (rightV r.view && checkE (-1) [r.entry] && sameR ⟨0, zV, r.cell, zE, r.n⟩ zR) := by unfold right9F; rw [if_pos k1]
      rw [e]
      cases hv : rightV r.view
      · simp -implicitDefEqProofs [g1, gh, g3, g4, g5, g6, n1, n1', k1, hv]
      · simp -implicitDefEqProofs [g1, gh, g3, g4, g5, g6, n1, n1', k1, hv]
        refine CallK.with (check7_spec [r.entry]) (by simp [eEs, eE]) ?_
        cases hE : checkE (-1) [r.entry]
        · simp -implicitDefEqProofs [g1, gh, g3, g4, g5, g6, n1, n1', k1, hv]
        · simp -implicitDefEqProofs [g1, gh, g3, g4, g5, g6, n1, n1', k1, hv]
          refine CallK.with (alike9_spec ⟨0, zV, r.cell, zE, r.n⟩ zR (by first | exact hf | exact fitR_zero) fitR_zero) (by simp [eRc, zR, zV, zC, zE]) ?_
          simp -implicitDefEqProofs
    by_cases k2 : r.kind = 2
    · have e : right9F r = (rightV r.view && chg9 r && decide (0 ≤ r.cell.node ∧ r.cell.node ≤ 5) && sameR ⟨0, zV, zC, r.entry, r.n⟩ zR) := by unfold right9F; rw [if_neg k1, if_pos k2]
      rw [e]
      cases hv : rightV r.view
      · simp -implicitDefEqProofs [g1, gh, g3, g4, g5, g6, n1, n1', k1, k2, hv]
      cases hc : chg9 r
      · simp -implicitDefEqProofs [g1, gh, g3, g4, g5, g6, n1, n1', k1, k2, hv, hc]
      by_cases hn : 0 ≤ r.cell.node ∧ r.cell.node ≤ 5
      · rw [decide_eq_true hn] at g5 ⊢
        simp -implicitDefEqProofs [g1, gh, g3, g4, g5, g6, n1, n1', k1, k2, hv, hc]
        refine CallK.with (alike9_spec ⟨0, zV, zC, r.entry, r.n⟩ zR (by first | exact hf | exact fitR_zero) fitR_zero) (by simp [eRc, zR, zV, zC, zE]) ?_
        simp -implicitDefEqProofs
      · rw [decide_eq_false hn] at g5 ⊢
        simp -implicitDefEqProofs [g1, gh, g3, g4, g5, g6, n1, n1', k1, k2, hv, hc]
    by_cases k3 : r.kind = 3
    · have e : right9F r = (rightV r.view && sameR ⟨0, zV, r.cell, r.entry, r.n⟩ zR) := by unfold right9F; rw [if_neg k1, if_neg k2, if_pos k3]
      rw [e]
      cases hv : rightV r.view
      · simp -implicitDefEqProofs [g1, gh, g3, g4, g5, g6, n1, n1', k1, k2, k3, hv]
      · simp -implicitDefEqProofs [g1, gh, g3, g4, g5, g6, n1, n1', k1, k2, k3, hv]
        refine CallK.with (alike9_spec ⟨0, zV, r.cell, r.entry, r.n⟩ zR (by first | exact hf | exact fitR_zero) fitR_zero) (by simp [eRc, zR, zV, zC, zE]) ?_
        simp -implicitDefEqProofs
    by_cases k4 : r.kind = 4
    · have e : right9F r = (decide (1 ≤ r.n ∧ r.n ≤ 1000000) && sameR ⟨0, r.view, r.cell, r.entry, 0⟩ zR) := by unfold right9F; rw [if_neg k1, if_neg k2, if_neg k3, if_pos (.inl k4)]
      rw [e]
      by_cases hn : 1 ≤ r.n ∧ r.n ≤ 1000000
      · rw [decide_eq_true hn] at g6 ⊢
        simp -implicitDefEqProofs [g1, gh, g3, g4, g5, g6, n1, n1', k1, k2, k3, k4]
        refine CallK.with (alike9_spec ⟨0, r.view, r.cell, r.entry, 0⟩ zR (by first | exact hf | exact fitR_zero) fitR_zero) (by simp [eRc, zR, zV, zC, zE]) ?_
        simp -implicitDefEqProofs
      · rw [decide_eq_false hn] at g6 ⊢
        simp -implicitDefEqProofs [g1, gh, g3, g4, g5, g6, n1, n1', k1, k2, k3, k4]
    by_cases k6 : r.kind = 6
    · have e : right9F r = (decide (1 ≤ r.n ∧ r.n ≤ 1000000) && sameR ⟨0, r.view, r.cell, r.entry, 0⟩ zR) := by unfold right9F; rw [if_neg k1, if_neg k2, if_neg k3, if_pos (.inr k6)]
      rw [e]
      by_cases hn : 1 ≤ r.n ∧ r.n ≤ 1000000
      · rw [decide_eq_true hn] at g6 ⊢
        simp -implicitDefEqProofs [g1, gh, g3, g4, g5, g6, n1, n1', k1, k2, k3, k4, k6]
        refine CallK.with (alike9_spec ⟨0, r.view, r.cell, r.entry, 0⟩ zR (by first | exact hf | exact fitR_zero) fitR_zero) (by simp [eRc, zR, zV, zC, zE]) ?_
        simp -implicitDefEqProofs
      · rw [decide_eq_false hn] at g6 ⊢
        simp -implicitDefEqProofs [g1, gh, g3, g4, g5, g6, n1, n1', k1, k2, k3, k4, k6]
    by_cases k5 : r.kind = 5
    · have e : right9F r = (rightV r.view && chg9 r && sameR ⟨0, zV, ⟨r.cell.node, zV⟩, r.entry, r.n⟩ zR) := by unfold right9F; rw [if_neg k1, if_neg k2, if_neg k3, if_neg (by omega), if_pos k5]
      rw [e]
      cases hv : rightV r.view
      · simp -implicitDefEqProofs [g1, gh, g3, g4, g5, g6, n1, n1', k1, k2, k3, k4, k6, k5, hv]
      cases hc : chg9 r
      · simp -implicitDefEqProofs [g1, gh, g3, g4, g5, g6, n1, n1', k1, k2, k3, k4, k6, k5, hv, hc]
      · simp -implicitDefEqProofs [g1, gh, g3, g4, g5, g6, n1, n1', k1, k2, k3, k4, k6, k5, hv, hc]
        refine CallK.with (alike9_spec ⟨0, zV, ⟨r.cell.node, zV⟩, r.entry, r.n⟩ zR (by first | exact hf | exact fitR_zero) fitR_zero) (by simp [eRc, zR, zV, zC, zE]) ?_
        simp -implicitDefEqProofs
    have e : right9F r = false := by unfold right9F; rw [if_neg k1, if_neg k2, if_neg k3, if_neg (by omega), if_neg k5]
    rw [e]
    simp -implicitDefEqProofs [g1, gh, g3, g4, g5, g6, n1, n1', k1, k2, k3, k4, k6, k5]
end Go.Proofs.YtjbbfiagijjdoaaGreat

/- Contracts: records' bytes, told otherwise. No condition. -/
set_option linter.unusedSimpArgs false
set_option linter.unusedVariables false
set_option maxRecDepth 10000
namespace Go.Proofs.YtjbbfiagijjdoaaGreat
open Go Go.Rw Go.Proofs

theorem right9r_spec (r : PRec) (hf : fitR r) : ASpec Tryz.prog 49 [.agg (eRc r)] (· = .v (.bool (rightR r))) := by
  rw [← right9_eq]; exact right9_spec r hf
end Go.Proofs.YtjbbfiagijjdoaaGreat

/- Contracts: the laws on replicas, what is alive and what can be. No condition. -/
set_option linter.unusedSimpArgs false
set_option linter.unusedVariables false
set_option maxRecDepth 10000
namespace Go.Proofs.YtjbbfiagijjdoaaGreat
open Go Go.Rw Go.Proofs
-- a goal is never to be run by the elaborator
attribute [local irreducible] awp aops aop aopsE aeff

def v7 : PView := ⟨7, 0⟩
def putM (n : Int) : PMsg := ⟨3, 1, 2, 1, 1, v7, [], [⟨1, ⟨n, 0⟩, 4616189618054758400⟩]⟩
theorem rightV_v7 : rightV v7 = true := by decide
theorem take_all {l : List PRec} {k : Nat} {x : PRec} (hx : l[k]? = some x) (hp : rightR x = true) (hn : ∀ y ∈ l.take k, rightR y = true) : ∀ y ∈ l.take (k + 1), rightR y = true := by
  intro y hy
  rw [List.take_add_one, hx] at hy
  rcases List.mem_append.1 hy with h | h
  · exact hn y h
  · simp at h; rw [h]; exact hp
def R13I (l : List PRec) (b1 : Nat) (q : PMsg) (me : Int) (t : Nat → AV) (h : Nat → Option (List AV)) : Prop := ∃ k : Nat, t 0 = eI me ∧ t 5 = .ptr b1 0 ∧ t 9 = .sl .no (eRs l) ∧ t 10 = eI l.length ∧ t 11 = eI k ∧ k ≤ l.length ∧ h b1 = some (eM q) ∧ ∀ r ∈ l.take k, rightR r = true
def R13M (l : List PRec) (b1 : Nat) (q : PMsg) (me : Int) (t : Nat → AV) (h : Nat → Option (List AV)) : Prop := t 0 = eI me ∧ t 5 = .ptr b1 0 ∧ h b1 = some (eM q) ∧ ∀ r ∈ l, rightR r = true
end Go.Proofs.YtjbbfiagijjdoaaGreat

/- Contracts: the views seen of a state in which nothing was written; what is alive of fold. No condition. -/
set_option linter.unusedSimpArgs false
set_option linter.unusedVariables false
set_option maxRecDepth 10000
namespace Go.Proofs.YtjbbfiagijjdoaaGreat
open Go Go.Rw Go.Proofs
-- a goal is never to be run by the elaborator
attribute [local irreducible] awp aops aop aopsE aeff

theorem ins1_spec (v : PView) (g : FuncId) : ASpec Tryz.prog 177 [.sl .no [eV v], eI 0, eI 1, .fn g []] (fun _ => True) := by
  refine ASpec.of_awp Tryz.func177 (by kernel_rfl) rfl (by rw [Tryz.results177]) Tryz.ntmps177 ?_
  have hw : IntKind.i64.wrap 1 = 1 := by decide
  simp -implicitDefEqProofs [hw]
  refine loopK.intro (fun t h => t 8 = eI 1 ∧ t 2 = eI 1) (fun _ => 0) ?_ ?_
  · simp
  rintro t hh ⟨g8, g2⟩
  simp -implicitDefEqProofs [g8, g2]
theorem pdq1_spec (v : PView) (g : FuncId) (lim : Int) : ASpec Tryz.prog 144 [.sl .no [eV v], eI 0, eI 1, eI lim, .fn g []] (fun _ => True) := by
  refine ASpec.of_awp Tryz.func144 (by kernel_rfl) rfl (by rw [Tryz.results144]) Tryz.ntmps144 ?_
  have hw : IntKind.i64.wrap 1 = 1 := by decide
  simp -implicitDefEqProofs
  refine loopK.intro (fun t h => t 0 = .sl .no [eV v] ∧ t 1 = eI 0 ∧ t 2 = eI 1 ∧ t 4 = .fn g []) (fun _ => 0) ?_ ?_
  · simp
  rintro t hh ⟨g0, g1, g2, g4⟩
  simp -implicitDefEqProofs [g0, g1, g2, g4, hw]
  refine CallK.via (ins1_spec v g) (by simp) ?_
  rintro r -
  simp -implicitDefEqProofs
theorem sort1_spec (v : PView) (g : FuncId) : ASpec Tryz.prog 82 [.sl .no [eV v], .fn g []] (fun _ => True) := by
  refine ASpec.of_awp Tryz.func82 (by kernel_rfl) rfl (by rw [Tryz.results82]) Tryz.ntmps82 ?_
  have hw : IntKind.u64.wrap 1 = 1 := by decide
  simp -implicitDefEqProofs [hw]
  refine CallK.with (bitsLen_spec 1 (by omega)) (by simp) ?_
  simp -implicitDefEqProofs
  refine CallK.via (pdq1_spec v g _) (by simp; rfl) ?_
  rintro r -
  simp -implicitDefEqProofs
theorem compact1_spec (v : PView) : ASpec Tryz.prog 85 [.sl .no [eV v]] (· = .sl .no [eV v]) := by
  refine ASpec.of_awp Tryz.func85 (by kernel_rfl) rfl (by rw [Tryz.results85]) Tryz.ntmps85 ?_
  simp -implicitDefEqProofs
theorem seen1_spec (v : PView) (i a : Int) : ASpec Tryz.prog 34 [.agg (eSt ⟨[], [], [], v, i, a⟩)] (fun r => ∃ tag, r = .sl tag [eV v]) := by
  refine ASpec.of_awp Tryz.func34 (by kernel_rfl) rfl (by rw [Tryz.results34]) Tryz.ntmps34 ?_
  simp -implicitDefEqProofs [eSt]
  refine allocK.intro (fun b1 hb1 => ?_)
  simp -implicitDefEqProofs
  refine bsK.std ?_
  simp -implicitDefEqProofs
  refine loopK.post (fun t h => t 3 = .sl .full [eV v] ∧ t 1 = .ptr b1 0 ∧ t 15 = eI 0 ∧ t 16 = eI 0 ∧ h b1 = some (eSt ⟨[], [], [], v, i, a⟩)) (fun _ => 0) (fun t h => t 3 = .sl .full [eV v] ∧ t 1 = .ptr b1 0 ∧ h b1 = some (eSt ⟨[], [], [], v, i, a⟩)) ?_ ?_ ?_
  · simp [eV, eSt]
  · rintro t hh ⟨g3, g1, g15, g16, c1⟩
    simp -implicitDefEqProofs [g15, g16]
    exact ⟨g3, g1, c1⟩
  rintro t hh ⟨g3, g1, c1⟩
  rw [eSt] at c1
  simp -implicitDefEqProofs [g1, c1]
  refine loopK.post (fun t h => t 3 = .sl .full [eV v] ∧ t 1 = .ptr b1 0 ∧ t 28 = eI 0 ∧ t 29 = eI 0 ∧ h b1 = some (eSt ⟨[], [], [], v, i, a⟩)) (fun _ => 0) (fun t h => t 3 = .sl .full [eV v] ∧ t 1 = .ptr b1 0 ∧ h b1 = some (eSt ⟨[], [], [], v, i, a⟩)) ?_ ?_ ?_
  · simp [g3, g1, c1, eSt]
  · rintro t hh ⟨g3, g1, g15, g16, c1⟩
    simp -implicitDefEqProofs [g15, g16]
    exact ⟨g3, g1, c1⟩
  rintro t hh ⟨g3, g1, c1⟩
  rw [eSt] at c1
  simp -implicitDefEqProofs [g1, c1]
  refine loopK.post (fun t h => t 3 = .sl .full [eV v] ∧ t 41 = eI 0 ∧ t 42 = eI 0) (fun _ => 0) (fun t h => t 3 = .sl .full [eV v]) ?_ ?_ ?_
  · simp [g3]
  · rintro t hh ⟨g3, g15, g16⟩
    simp -implicitDefEqProofs [g15, g16]
    exact g3
  rintro t hh g3
  simp -implicitDefEqProofs [g3]
  refine CallK.via (sort1_spec v 83) (by simp) ?_
  rintro r -
  simp -implicitDefEqProofs [g3]
  refine CallK.with (compact1_spec v) (by simp) ?_
  simp -implicitDefEqProofs
theorem first_spec : ASpec Tryz.prog 63 [] (· = .agg (eV v7)) := by
  refine ASpec.of_awp Tryz.func63 (by kernel_rfl) rfl (by rw [Tryz.results63]) Tryz.ntmps63 ?_
  simp -implicitDefEqProofs
  refine allocK.intro (fun b1 hb1 => ?_)
  simp -implicitDefEqProofs [eV, v7]
def aliveL : List PRec := [⟨4, zV, zC, zE, 5⟩, ⟨4, zV, zC, zE, 3⟩, ⟨3, ⟨15, 0⟩, zC, zE, 0⟩, ⟨3, ⟨7, 1⟩, zC, zE, 0⟩]
theorem alive_right : ∀ r ∈ aliveL, rightR r = true := by decide
theorem alive_fold : foldS v7 aliveL = ⟨[], [], [], ⟨15, 0⟩, 0, 5⟩ := by
  have h : withinV ⟨7, 0⟩ ⟨15, 0⟩ = true := by decide
  have h2 : withinV ⟨15, 0⟩ ⟨7, 1⟩ = false := by decide
  simp [foldS, aliveL, applyS, newS, v7, h, h2]
  try omega
theorem alive12_spec : ASpec Tryz.prog 28 [] (· = .v (.bool true)) := by
  refine ASpec.of_awp Tryz.func28 (by kernel_rfl) rfl (by rw [Tryz.results28]) Tryz.ntmps28 ?_
  simp -implicitDefEqProofs
  refine CallK.eq first_spec ?_
  have hf := fold_spec v7 aliveL rightV_v7 alive_right (by decide)
  rw [alive_fold] at hf
  simp -implicitDefEqProofs [eV, v7]
  refine CallK.with hf (by simp [eV, v7, aliveL, eRs, eRc, zV, zC, zE]) ?_
  simp -implicitDefEqProofs [eSt]
  refine allocK.intro (fun b1 hb1 => ?_)
  simp -implicitDefEqProofs
  refine CallK.via (seen1_spec ⟨15, 0⟩ 0 5) (by simp [eSt]) ?_
  rintro _ ⟨tag, rfl⟩
  simp -implicitDefEqProofs
end Go.Proofs.YtjbbfiagijjdoaaGreat

/- Plain: the same log behind itself changes nothing; records of unlike kinds or views may turn. No condition. -/
set_option linter.unusedSimpArgs false
set_option linter.unusedVariables false
set_option maxRecDepth 10000
namespace Go.Proofs.YtjbbfiagijjdoaaGreat
open Go Go.Rw Go.Proofs

/-- the state has the record -/
def hasRec (s : PState) (r : PRec) : Prop :=
  (r.kind = 1 → ∃ b, lookK keyVB s.books (nameV r.view) = some ⟨r.view, b⟩ ∧ lessT (findE b r.entry.key).tag r.entry.tag = false) ∧
  (r.kind = 2 → ∃ c, lookK keyVC s.cells (nameV r.view) = some ⟨r.view, c⟩ ∧ (ofC c r.cell.node).isSome = true) ∧
  (r.kind = 3 → ¬ (withinV s.held r.view = true ∧ ¬ s.held = r.view)) ∧
  (r.kind = 4 → r.n ≤ s.last) ∧
  (r.kind = 5 → (intentS s r.view).isSome = true) ∧
  (r.kind = 6 → r.n ≤ s.inc)
/-! ### within -/
/-! ### what was written is there -/
end Go.Proofs.YtjbbfiagijjdoaaGreat

/- The laws FoldNames and FoldTwice, walked. No condition. -/
set_option linter.unusedSimpArgs false
set_option linter.unusedVariables false
set_option maxRecDepth 10000
namespace Go.Proofs.YtjbbfiagijjdoaaGreat
open Go Go.Rw Go.Proofs
-- a goal is never to be run by the elaborator
attribute [local irreducible] awp aops aop aopsE aeff

def R12I (l : List PRec) (b1 : Nat) (v : PView) (t : Nat → AV) (h : Nat → Option (List AV)) : Prop := ∃ k : Nat, t 2 = .ptr b1 0 ∧ t 7 = .sl .no (eRs l) ∧ t 8 = eI l.length ∧ t 9 = eI k ∧ k ≤ l.length ∧ h b1 = some (eV v) ∧ ∀ r ∈ l.take k, rightR r = true
def R12M (l : List PRec) (b1 : Nat) (v : PView) (t : Nat → AV) (h : Nat → Option (List AV)) : Prop := t 2 = .ptr b1 0 ∧ h b1 = some (eV v) ∧ ∀ r ∈ l, rightR r = true
theorem right12_spec (v : PView) (l : List PRec) (hf : ∀ r ∈ l, fitR r) (hl : l.length ≤ 1000000000) : ASpec Tryz.prog 29 [.agg (eV v), .sl .no (eRs l)] (· = .v (.bool (l.all rightR && rightV v))) := by
  refine ASpec.of_awp Tryz.func29 (by kernel_rfl) rfl (by rw [Tryz.results29]) Tryz.ntmps29 ?_
  simp -implicitDefEqProofs [eV]
  refine allocK.intro (fun b1 hb1 => ?_)
  simp -implicitDefEqProofs
  intro _
  refine loopK.post (R12I l b1 v) (fun t => l.length - natOf (t 9)) (R12M l b1 v) ?_ ?_ ?_
  · exact ⟨0, by simp, by simp, by simp, by simp, by omega, by simp [eV], by simp⟩
  · rintro t hh ⟨k, g5, g9, g10, g11, hk, e1, hr⟩
    by_cases hlt : k < l.length
    · have hlt' : (k : Int) < (l.length : Int) := by omega
      have hw : IntKind.i64.wrap ((k : Int) + 1) = ((k + 1 : Nat) : Int) := by rw [w64 (by omega) (by omega)]; omega
      obtain ⟨r, hx⟩ : ∃ r, l[k]? = some r := ⟨l[k], by simp [hlt]⟩
      have hrs := right9r_spec r (hf r (List.mem_of_getElem? hx))
      simp -implicitDefEqProofs [g9, g10, g11, hlt', hx, eRc]
      refine allocK.intro (fun b2 hb2 => ?_)
      have n12 : ¬ b1 = b2 := by rintro rfl; rw [e1] at hb2; simp at hb2
      have n21 : ¬ b2 = b1 := fun h => n12 h.symm
      simp -implicitDefEqProofs [n12, n21]
      refine CallK.with hrs (by simp [eRc]) ?_
      cases hi : rightR r
      · have hall : l.all rightR = false := by
          rw [Bool.eq_false_iff]
          intro h
          rw [List.all_eq_true] at h
          have := h r (List.mem_of_getElem? hx)
          rw [hi] at this; simp at this
        simp -implicitDefEqProofs [hall]
      · simp -implicitDefEqProofs [g11, hw, n12, n21]
        exact ⟨⟨k + 1, by simp [g5], by simp [g9], by simp [g10], by simp, by omega, by simp [n12, e1], take_all hx hi hr⟩, by omega⟩
    · have hlt' : ¬ (k : Int) < (l.length : Int) := by omega
      rw [List.take_of_length_le (by omega)] at hr
      simp -implicitDefEqProofs [g10, g11, hlt']
      exact ⟨g5, e1, hr⟩
  rintro t hh ⟨g5, e1, hr⟩
  rw [eV] at e1
  have hall : l.all rightR = true := by rw [List.all_eq_true]; exact hr
  simp -implicitDefEqProofs [g5, e1, hall]
  refine CallK.with (right4_spec v) (by simp [eV]) ?_
  simp -implicitDefEqProofs [hall]
theorem right12_of {v : PView} {l : List PRec} (h : (l.all rightR && rightV v) = true) : (∀ r ∈ l, rightR r = true) ∧ rightV v = true := by
  simp only [Bool.and_eq_true, List.all_eq_true] at h
  exact h
def TwI (l : List PRec) (s : PState) (b2 b3 : Nat) (t : Nat → AV) (h : Nat → Option (List AV)) : Prop := ∃ k : Nat, t 5 = .ptr b2 0 ∧ t 6 = .ptr b3 0 ∧ t 24 = .sl .no (eRs l) ∧ t 25 = eI l.length ∧ t 26 = eI k ∧ k ≤ l.length ∧ h b2 = some (eSt s) ∧ h b3 = some (eSt s)
def TwM (s : PState) (b2 b3 : Nat) (t : Nat → AV) (h : Nat → Option (List AV)) : Prop := t 5 = .ptr b2 0 ∧ t 6 = .ptr b3 0 ∧ h b2 = some (eSt s) ∧ h b3 = some (eSt s)
end Go.Proofs.YtjbbfiagijjdoaaGreat

/- Contracts: the document's: are two states the same? No condition. -/
set_option linter.unusedSimpArgs false
set_option linter.unusedVariables false
set_option maxRecDepth 10000
namespace Go.Proofs.YtjbbfiagijjdoaaGreat
open Go Go.Rw Go.Proofs
-- a goal is never to be run by the elaborator
attribute [local irreducible] awp aops aop aopsE aeff

/-- a state whose values are of 64 bits -/
def fitS (s : PState) : Prop := ∀ x ∈ s.books, ∀ e ∈ x.book, e.value < 18446744073709551616
def S12 (a b : PState) (b1 b2 : Nat) (t : Nat → AV) (h : Nat → Option (List AV)) : Prop := t 2 = .ptr b1 0 ∧ t 3 = .ptr b2 0 ∧ h b1 = some (eSt a) ∧ h b2 = some (eSt b)
def S12B (a b : PState) (b1 b2 : Nat) (t : Nat → AV) (h : Nat → Option (List AV)) : Prop := ∃ k : Nat, S12 a b b1 b2 t h ∧ t 56 = eI a.books.length ∧ t 57 = eI k ∧ k ≤ a.books.length ∧ sameVBs (a.books.drop k) (b.books.drop k) = sameVBs a.books b.books
def S12D (a b : PState) (b1 b2 : Nat) (t : Nat → AV) (h : Nat → Option (List AV)) : Prop := ∃ k : Nat, S12 a b b1 b2 t h ∧ t 92 = eI a.cells.length ∧ t 93 = eI k ∧ k ≤ a.cells.length ∧ sameVCs (a.cells.drop k) (b.cells.drop k) = sameVCs a.cells b.cells
def S12E (a b : PState) (b1 b2 : Nat) (t : Nat → AV) (h : Nat → Option (List AV)) : Prop := ∃ k : Nat, S12 a b b1 b2 t h ∧ t 128 = eI a.intents.length ∧ t 129 = eI k ∧ k ≤ a.intents.length ∧ a.intents.take k = b.intents.take k
def S12M (a b : PState) (b1 b2 : Nat) (P : Prop) (t : Nat → AV) (h : Nat → Option (List AV)) : Prop := S12 a b b1 b2 t h ∧ P
theorem same12_spec (a b : PState) (ha : fitS a) (hb : fitS b) : ASpec Tryz.prog 27 [.agg (eSt a), .agg (eSt b)] (· = .v (.bool (sameSt a b))) := by
  refine ASpec.of_awp Tryz.func27 (by kernel_rfl) rfl (by rw [Tryz.results27]) Tryz.ntmps27 ?_
  simp -implicitDefEqProofs [eSt]
  refine allocK.intro (fun b1 hb1 => ?_)
  simp -implicitDefEqProofs
  refine allocK.intro (fun b2 hb2 => ?_)
  have n12 : ¬ b1 = b2 := by rintro rfl; simp at hb2
  have n21 : ¬ b2 = b1 := fun h => n12 h.symm
  simp -implicitDefEqProofs [n12, n21]
  intro l1 l2
  by_cases h1 : a.books.length = b.books.length
  rotate_left
  · have e : sameSt a b = false := by unfold sameSt; rw [sameVBs_len h1]; rfl
    have h1' : ¬ (a.books.length : Int) = (b.books.length : Int) := by omega
    simp -implicitDefEqProofs [n12, n21, h1, h1', e]
  simp -implicitDefEqProofs [n12, n21, h1]
  intro l3 l4
  by_cases h2 : a.cells.length = b.cells.length
  rotate_left
  · have e : sameSt a b = false := by unfold sameSt; rw [sameVCs_len h2]; simp
    have h2' : ¬ (a.cells.length : Int) = (b.cells.length : Int) := by omega
    simp -implicitDefEqProofs [n12, n21, h2, h2', e]
  simp -implicitDefEqProofs [n12, n21, h2]
  intro l5 l6
  by_cases h3 : a.intents.length = b.intents.length
  rotate_left
  · have e0 : ¬ a.intents = b.intents := fun h => h3 (by rw [h])
    have e : sameSt a b = false := by unfold sameSt; simp [e0]
    have h3' : ¬ (a.intents.length : Int) = (b.intents.length : Int) := by omega
    simp -implicitDefEqProofs [n12, n21, h3, h3', e]
  by_cases h4 : a.held.add = b.held.add
  rotate_left
  · have e0 : ¬ a.held = b.held := fun h => h4 (by rw [h])
    have e : sameSt a b = false := by unfold sameSt; simp [e0]
    have h4' : (a.held.add == b.held.add) = false := by simpa using h4
    simp -implicitDefEqProofs [n12, n21, h3, h4, h4', e]
  by_cases h5 : a.held.del = b.held.del
  rotate_left
  · have e0 : ¬ a.held = b.held := fun h => h5 (by rw [h])
    have e : sameSt a b = false := by unfold sameSt; simp [e0]
    have h5' : (a.held.del == b.held.del) = false := by simpa using h5
    simp -implicitDefEqProofs [n12, n21, h3, h4, h5, h5', e]
  by_cases h6 : a.inc = b.inc
  rotate_left
  · have e : sameSt a b = false := by unfold sameSt; simp [h6]
    simp -implicitDefEqProofs [n12, n21, h3, h4, h5, h6, e]
  by_cases h7 : a.last = b.last
  rotate_left
  · have e : sameSt a b = false := by unfold sameSt; simp [h7]
    simp -implicitDefEqProofs [n12, n21, h3, h4, h5, h6, h7, e]
  have hheld : a.held = b.held := by cases hx : a.held; cases hy : b.held; simp_all
  have hrest : sameSt a b = (sameVBs a.books b.books && (sameVCs a.cells b.cells && decide (a.intents = b.intents))) := by simp only [sameSt, hheld, h6, h7, decide_true, Bool.and_true]
  rw [hrest]
  simp -implicitDefEqProofs [n12, n21, h3, h4, h5, h6, h7]
  intro _
  have eA : eSt a = [.sl .no (rowsVB a.books), .sl .no (rowsVC a.cells), .sl .no (rowsVI a.intents), eI a.held.add, eI a.held.del, eI a.inc, eI a.last] := rfl
  have eB : eSt b = [.sl .no (rowsVB b.books), .sl .no (rowsVC b.cells), .sl .no (rowsVI b.intents), eI b.held.add, eI b.held.del, eI b.inc, eI b.last] := rfl
  refine loopK.post (S12B a b b1 b2) (fun t => a.books.length - natOf (t 57)) (S12M a b b1 b2 (sameVBs a.books b.books = true)) ?_ ?_ ?_
  · exact ⟨0, ⟨by simp, by simp, by simp [n12, n21, eSt, h4, h5, h6, h7], by simp [eSt, h4, h5, h6, h7]⟩, by simp, by simp, by omega, by simp⟩

  · rintro t hh ⟨k, ⟨g2, g3, c1, c2⟩, gl, gk, hk, he⟩
    by_cases hlt : k < a.books.length
    · have hlt' : (k : Int) < (a.books.length : Int) := by omega
      have hlt2 : k < b.books.length := by omega
      obtain ⟨x, hx⟩ : ∃ x, a.books[k]? = some x := ⟨a.books[k], by simp [hlt]⟩
      obtain ⟨y, hy⟩ : ∃ y, b.books[k]? = some y := ⟨b.books[k], by simp [hlt2]⟩
      have hw : IntKind.i64.wrap ((k : Int) + 1) = ((k + 1 : Nat) : Int) := by rw [w64 (by omega) (by omega)]; omega
      have hdx : a.books.drop k = x :: a.books.drop (k + 1) := by
        rw [List.drop_eq_getElem_cons hlt]; rw [List.getElem?_eq_getElem hlt] at hx; rw [Option.some.inj hx]
      have hdy : b.books.drop k = y :: b.books.drop (k + 1) := by
        rw [List.drop_eq_getElem_cons hlt2]; rw [List.getElem?_eq_getElem hlt2] at hy; rw [Option.some.inj hy]
      rw [hdx, hdy, sameVBs] at he
      have c1' := c1
      have c2' := c2
      rw [eA] at c1'
      rw [eB] at c2'
      simp -implicitDefEqProofs [gl, gk, hlt']
      refine regionK.intro 29 follows_mixed (by kernel_rfl) ?_
      by_cases v1 : x.view.add = y.view.add
      · by_cases v2 : x.view.del = y.view.del
        · have hv : x.view = y.view := by cases hx : x.view; cases hy : y.view; simp_all
          simp -implicitDefEqProofs [g2, g3, c1', c2', hx, hy, eVB, v1, v2]
          refine CallQ.eq (same7_spec x.book y.book (ha x (List.mem_of_getElem? hx)) (hb y (List.mem_of_getElem? hy))) ?_
          simp -implicitDefEqProofs
          refine branch_intro (fun h8 => ?_) (fun h8 => ?_)
          · have e8 : sameEs x.book y.book = true := by simpa using h8
            rw [sameVB, e8] at he
            simp only [hv, decide_true, Bool.true_and] at he
            simp -implicitDefEqProofs [gk, hw]
            exact ⟨⟨k + 1, ⟨by simp [g2], by simp [g3], c1, c2⟩, by simp [gl], by simp, by omega, he⟩, by omega⟩
          · have e8 : sameEs x.book y.book = false := by simpa using h8
            rw [sameVB, e8, Bool.and_false, Bool.false_and] at he
            simp -implicitDefEqProofs [← he]
        · have hv : ¬ x.view = y.view := fun h => v2 (by rw [h])
          have v2' : (x.view.del == y.view.del) = false := by simpa using v2
          have e8 : sameVBs (x :: a.books.drop (k + 1)) (y :: b.books.drop (k + 1)) = false := by simp [sameVBs, sameVB, hv]
          rw [sameVB] at he
          simp only [hv, decide_false, Bool.false_and] at he
          simp -implicitDefEqProofs [g2, g3, c1', c2', hx, hy, eVB, v1, v2, v2', ← he]
      · have hv : ¬ x.view = y.view := fun h => v1 (by rw [h])
        have v1' : (x.view.add == y.view.add) = false := by simpa using v1
        rw [sameVB] at he
        simp only [hv, decide_false, Bool.false_and] at he
        simp -implicitDefEqProofs [g2, g3, c1', c2', hx, hy, eVB, v1, v1', ← he]
    · have hlt' : ¬ (k : Int) < (a.books.length : Int) := by omega
      simp -implicitDefEqProofs [gl, gk, hlt']
      rw [List.drop_eq_nil_of_le (by omega), List.drop_eq_nil_of_le (by omega)] at he
      exact ⟨⟨by simp [g2], by simp [g3], c1, c2⟩, by rw [← he]; rfl⟩
  rintro t hh ⟨⟨g2, g3, c1, c2⟩, hB⟩
  rw [hB, Bool.true_and]
  have c1' := c1
  rw [eA] at c1'
  simp -implicitDefEqProofs [g2, c1']
  intro _
  refine loopK.post (S12D a b b1 b2) (fun t => a.cells.length - natOf (t 93)) (S12M a b b1 b2 (sameVCs a.cells b.cells = true)) ?_ ?_ ?_
  · exact ⟨0, ⟨by simp [g2], by simp [g3], c1, c2⟩, by simp, by simp, by omega, by simp⟩

  · rintro t hh ⟨k, ⟨g2, g3, c1, c2⟩, gl, gk, hk, he⟩
    by_cases hlt : k < a.cells.length
    · have hlt' : (k : Int) < (a.cells.length : Int) := by omega
      have hlt2 : k < b.cells.length := by omega
      obtain ⟨x, hx⟩ : ∃ x, a.cells[k]? = some x := ⟨a.cells[k], by simp [hlt]⟩
      obtain ⟨y, hy⟩ : ∃ y, b.cells[k]? = some y := ⟨b.cells[k], by simp [hlt2]⟩
      have hw : IntKind.i64.wrap ((k : Int) + 1) = ((k + 1 : Nat) : Int) := by rw [w64 (by omega) (by omega)]; omega
      have hdx : a.cells.drop k = x :: a.cells.drop (k + 1) := by
        rw [List.drop_eq_getElem_cons hlt]; rw [List.getElem?_eq_getElem hlt] at hx; rw [Option.some.inj hx]
      have hdy : b.cells.drop k = y :: b.cells.drop (k + 1) := by
        rw [List.drop_eq_getElem_cons hlt2]; rw [List.getElem?_eq_getElem hlt2] at hy; rw [Option.some.inj hy]
      rw [hdx, hdy, sameVCs] at he
      have c1' := c1
      have c2' := c2
      rw [eA] at c1'
      rw [eB] at c2'
      simp -implicitDefEqProofs [gl, gk, hlt']
      refine regionK.intro 29 follows_mixed (by kernel_rfl) ?_
      by_cases v1 : x.view.add = y.view.add
      · by_cases v2 : x.view.del = y.view.del
        · have hv : x.view = y.view := by cases hx : x.view; cases hy : y.view; simp_all
          simp -implicitDefEqProofs [g2, g3, c1', c2', hx, hy, eVC, v1, v2]
          refine CallQ.eq (same10_spec x.cells y.cells) ?_
          simp -implicitDefEqProofs
          refine branch_intro (fun h8 => ?_) (fun h8 => ?_)
          · have e8 : decide (x.cells = y.cells) = true := by simpa using h8
            rw [sameVC, e8] at he
            simp only [hv, decide_true, Bool.true_and] at he
            simp -implicitDefEqProofs [gk, hw]
            exact ⟨⟨k + 1, ⟨by simp [g2], by simp [g3], c1, c2⟩, by simp [gl], by simp, by omega, he⟩, by omega⟩
          · have e8 : decide (x.cells = y.cells) = false := by simpa using h8
            rw [sameVC, e8, Bool.and_false, Bool.false_and] at he
            simp -implicitDefEqProofs [← he]
        · have hv : ¬ x.view = y.view := fun h => v2 (by rw [h])
          have v2' : (x.view.del == y.view.del) = false := by simpa using v2
          have e8 : sameVCs (x :: a.cells.drop (k + 1)) (y :: b.cells.drop (k + 1)) = false := by simp [sameVCs, sameVC, hv]
          rw [sameVC] at he
          simp only [hv, decide_false, Bool.false_and] at he
          simp -implicitDefEqProofs [g2, g3, c1', c2', hx, hy, eVC, v1, v2, v2', ← he]
      · have hv : ¬ x.view = y.view := fun h => v1 (by rw [h])
        have v1' : (x.view.add == y.view.add) = false := by simpa using v1
        rw [sameVC] at he
        simp only [hv, decide_false, Bool.false_and] at he
        simp -implicitDefEqProofs [g2, g3, c1', c2', hx, hy, eVC, v1, v1', ← he]
    · have hlt' : ¬ (k : Int) < (a.cells.length : Int) := by omega
      simp -implicitDefEqProofs [gl, gk, hlt']
      rw [List.drop_eq_nil_of_le (by omega), List.drop_eq_nil_of_le (by omega)] at he
      exact ⟨⟨by simp [g2], by simp [g3], c1, c2⟩, by rw [← he]; rfl⟩
  rintro t hh ⟨⟨g2, g3, c1, c2⟩, hC⟩
  rw [hC, Bool.true_and]
  have c1' := c1
  rw [eA] at c1'
  simp -implicitDefEqProofs [g2, c1']
  intro _
  refine loopK.post (S12E a b b1 b2) (fun t => a.intents.length - natOf (t 129)) (S12M a b b1 b2 (a.intents = b.intents)) ?_ ?_ ?_
  · exact ⟨0, ⟨by simp [g2], by simp [g3], c1, c2⟩, by simp, by simp, by omega, by simp⟩

  · rintro t hh ⟨k, ⟨g2, g3, c1, c2⟩, gl, gk, hk, he⟩
    by_cases hlt : k < a.intents.length
    · have hlt' : (k : Int) < (a.intents.length : Int) := by omega
      have hlt2 : k < b.intents.length := by omega
      obtain ⟨x, hx⟩ : ∃ x, a.intents[k]? = some x := ⟨a.intents[k], by simp [hlt]⟩
      obtain ⟨y, hy⟩ : ∃ y, b.intents[k]? = some y := ⟨b.intents[k], by simp [hlt2]⟩
      have hw : IntKind.i64.wrap ((k : Int) + 1) = ((k + 1 : Nat) : Int) := by rw [w64 (by omega) (by omega)]; omega
      have c1' := c1
      have c2' := c2
      rw [eA] at c1'
      rw [eB] at c2'
      simp -implicitDefEqProofs [gl, gk, hlt']
      refine regionK.intro 11 follows_mixed (by kernel_rfl) ?_
      simp -implicitDefEqProofs [g2, g3, c1', c2', hx, hy, eVI]
      refine branch_intro (fun hb2 => ?_) (fun hb2 => ?_)
      · have hne : x ≠ y := by rintro rfl; simp at hb2
        have hno : ¬ a.intents = b.intents := fun h => by rw [h, hy] at hx; exact hne (Option.some.inj hx).symm
        simp -implicitDefEqProofs [hno]
      · have hxy : x = y := by
          rw [viEq]
          simp at hb2
          simp [hb2]
        simp -implicitDefEqProofs [gk, hw]
        refine ⟨⟨k + 1, ⟨by simp [g2], by simp [g3], c1, c2⟩, by simp [gl], by simp, by omega, ?_⟩, by omega⟩
        rw [List.take_add_one, List.take_add_one, he, hx, hy, hxy]
    · have hlt' : ¬ (k : Int) < (a.intents.length : Int) := by omega
      simp -implicitDefEqProofs [gl, gk, hlt']
      rw [List.take_of_length_le (by omega), List.take_of_length_le (by omega)] at he
      exact ⟨⟨by simp [g2], by simp [g3], c1, c2⟩, he⟩
  rintro t hh ⟨⟨g2, g3, c1, c2⟩, hE⟩
  simp -implicitDefEqProofs [hE]
end Go.Proofs.YtjbbfiagijjdoaaGreat
