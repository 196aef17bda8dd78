/- Parts of the proof: what is used by the law. No condition. -/
import Derived.Test.YtjbbfiagijjdoaaGreatRows
import Derived.Test.YtjbbfiagijjdoaaGreatGC
set_option linter.unusedSimpArgs false
set_option linter.unusedVariables false
/- Contracts: a list with something put in its place (api.ViewCells). Printed by sort/gen.py. No condition. -/
set_option linter.unusedSimpArgs false
set_option linter.unusedVariables false
set_option maxRecDepth 10000
namespace Go.Proofs.YtjbbfiagijjdoaaGreat
open Go Go.Rw Go.Proofs
-- a goal is never to be run by the elaborator
attribute [local irreducible] awp aops aop aopsE aeff

theorem putKVC_new {l : List PVC} {x : PVC} (hs : sortK keyVC l) (hh : hasK keyVC l (keyVC x) = false) : putK keyVC l x = insVC l (posK keyVC l (keyVC x)) x := by
  obtain ⟨h1, h2⟩ := take_posK hs (keyVC x)
  unfold putK insVC
  rw [h1, h2]
  congr 2
  refine List.filter_congr fun y hy => ?_
  have : ¬ keyVC y = keyVC x := fun h => by
    have h3 : hasK keyVC l (keyVC x) = true := by rw [hasK, List.any_eq_true]; exact ⟨y, hy, by simpa using h⟩
    rw [hh] at h3; simp at h3
  by_cases h : keyVC x < keyVC y
  · have : ¬ keyVC y < keyVC x := by omega
    simp [h, this]
  · have : keyVC y < keyVC x := by omega
    simp [h, this]
theorem putKVC_old {l : List PVC} {x : PVC} (hs : sortK keyVC l) (hh : hasK keyVC l (keyVC x) = true) : putK keyVC l x = l.set (posK keyVC l (keyVC x)) x ∧ posK keyVC l (keyVC x) < l.length := by
  obtain ⟨h1, h2⟩ := take_posK hs (keyVC x)
  rcases hasK_at hs (keyVC x) with ⟨y, hy, hk, _⟩ | ⟨_, h3⟩
  · have hlt : posK keyVC l (keyVC x) < l.length := by
      rcases Nat.lt_or_ge (posK keyVC l (keyVC x)) l.length with h | h
      · exact h
      · rw [List.getElem?_eq_none h] at hy; simp at hy
    refine ⟨?_, hlt⟩
    rw [List.set_eq_take_append_cons_drop, if_pos hlt, h1]
    unfold putK
    congr 2
    have hd : l.drop (posK keyVC l (keyVC x)) = y :: l.drop (posK keyVC l (keyVC x) + 1) := by
      rw [List.drop_eq_getElem_cons hlt]; rw [List.getElem?_eq_getElem hlt] at hy; rw [Option.some.inj hy]
    have hsd : (l.drop (posK keyVC l (keyVC x))).Pairwise fun a b => keyVC a < keyVC b := List.Pairwise.sublist (List.drop_sublist _ _) hs
    rw [hd, List.pairwise_cons] at hsd
    have e1 : l.filter (fun z => decide (keyVC x < keyVC z)) = (l.filter (fun z => decide (¬ keyVC z < keyVC x))).filter (fun z => decide (keyVC x < keyVC z)) := by
      rw [List.filter_filter]
      refine List.filter_congr fun z _ => ?_
      by_cases h : keyVC x < keyVC z
      · have : ¬ keyVC z < keyVC x := by omega
        simp [h, this]
      · simp [h]
    rw [e1, ← h2, hd, List.filter_cons_of_neg (by simp [hk])]
    refine List.filter_eq_self.2 fun z hz => ?_
    have := hsd.1 z hz
    simp; omega
  · rw [hh] at h3; simp at h3
theorem putVC_spec (l : List PVC) (x : PVC) (hs : sortK keyVC l) (hl : l.length ≤ 1000000) (hr : ∀ y ∈ l, rightV y.view = true) (hx : rightV x.view = true) :
    ASpec Tryz.prog 102 [.agg [.fn 93 []], .sl .no (rowsVC l), .agg (eVC x)] (fun r => ∃ tag, r = .sl tag (rowsVC (putK keyVC l x))) := by
  refine ASpec.of_awpS Tryz.func102 (by kernel_rfl) rfl (by rw [Tryz.results102]) Tryz.ntmps102 ?_
  simp -implicitDefEqProofs [eVC]
  refine allocK.intro (fun b1 hb1 => ?_)
  simp -implicitDefEqProofs
  refine allocK.intro (fun b2 hb2 => ?_)
  have n12 : ¬ b1 = b2 := by rintro rfl; simp at hb2
  have n21 : ¬ b2 = b1 := fun h => n12 h.symm
  simp -implicitDefEqProofs [n12, n21]
  refine regionK.intro 12 follows_mixed (by kernel_rfl) ?_
  simp -implicitDefEqProofs [n12, n21]
  refine CallQ.with (ofVC_spec x) (by simp [eVC]) ?_
  simp -implicitDefEqProofs [n12, n21]
  refine CallQ.with (placeVC_spec l x.view hs (by omega) hr hx) (by simp [eV]) ?_
  have hpl := posK_le (key := keyVC) l (nameV x.view)
  simp -implicitDefEqProofs [n12, n21]
  have ek : nameV x.view = keyVC x := rfl
  rw [ek] at *
  have hcl := cloneVC_own l (by omega)
  refine CallK.own hcl (by simp) ?_
  rintro r (⟨tag, htag, rfl, hl0⟩ | ⟨hne, rfl⟩)
  · left
    refine ⟨tag, htag, rfl, ?_⟩
    subst hl0
    simp -implicitDefEqProofs [hasK, posK, n12, n21]
    refine CallK.fresh (insertVC_mn x) (by simp [eVC]) ?_
    rintro _ h' H ⟨b, c, sp, rfl, rfl, hsp⟩ - hH -
    have k1 := hH b _ (one_self _ _)
    clear hH
    simp -implicitDefEqProofs
    refine shiftK.freeze (b := b) (len := 1) (cap := c) 6 91 (rowsVC [x]) (by simp) (cells := eVC x ++ sp) k1 (by simpa [rowsVC] using chunksVC [x] sp) (by simp) ?_ ?_
    · rw [List.length_append, show (eVC x).length = 3 from rfl]; exact hsp
    have hp : putK keyVC [] x = [x] := rfl
    simp -implicitDefEqProofs [hp]
  · right
    refine ⟨_, _, _, _, rfl, hne, .inl rfl, fun b cap spare hb hcap hsp => ?_⟩
    have n1 : ¬ b = b1 := by rintro rfl; simp [n12] at hb
    have n1' : ¬ b1 = b := fun h => n1 h.symm
    have n2 : ¬ b = b2 := by rintro rfl; simp at hb
    have n2' : ¬ b2 = b := fun h => n2 h.symm
    have ed := dead2VC l
    have hl0 : 0 < l.length := by
      cases l with
      | nil => exact absurd rfl hne
      | cons => simp
    have hsp2 : l.length * 3 + (spare.map AV.v).length = cap * 3 := by simp at hsp ⊢; omega
    have hcl2 : ((rowsVC l).flatten ++ spare.map AV.v).length = cap * 3 := by rw [List.length_append, flenVC]; exact hsp2
    cases hh : hasK keyVC l (keyVC x)
    · simp -implicitDefEqProofs [n12, n21, n1, n1', n2, n2', ed, hh]
      refine CallK.mh (insertVC_sm l (posK keyVC l (keyVC x)) b cap (spare.map AV.v) x hl0 hpl (by omega) hsp2) (by simp [eVC]) (SubH_one.2 (by simp [Weak.refl])) ?_
      rintro _ h' H ⟨b', c', sp', rfl, rfl, hlen⟩ - hH -
      have k1 := hH b' _ (one_self _ _)
      clear hH
      have hil : (insVC l (posK keyVC l (keyVC x)) x).length = l.length + 1 := by
        unfold insVC
        rw [List.length_append, List.length_take, List.length_cons, List.length_drop]; omega
      rw [putKVC_new hs hh]
      generalize insVC l (posK keyVC l (keyVC x)) x = L at *
      simp -implicitDefEqProofs
      refine shiftK.freeze (b := b') (len := l.length + 1) (cap := c') 6 91 (rowsVC L) (by simp) k1 (chunksVC L sp') (by simp [hil]) ?_ ?_
      · rw [List.length_append, flenVC, hil]; exact hlen
      simp -implicitDefEqProofs
    · obtain ⟨hpe, hlt⟩ := putKVC_old hs hh
      rw [hpe]
      have hset : overlay ((rowsVC l).flatten ++ spare.map AV.v) (posK keyVC l (keyVC x) * 3) (eVC x) = (rowsVC (l.set (posK keyVC l (keyVC x)) x)).flatten ++ spare.map AV.v := by
        rw [flat_set (rowsVC_one l) rfl (by simpa using hlt)]
        simp [rowsVC, List.map_set]
      have hfit : posK keyVC l (keyVC x) * 3 + 3 ≤ ((rowsVC l).flatten ++ spare.map AV.v).length := flat_fits (rowsVC_one l) (by simpa using hlt)
      generalize posK keyVC l (keyVC x) = p at *
      have hlt' : (p : Int) < (l.length : Int) := by omega
      obtain ⟨L, hL⟩ : ∃ L, l.set p x = L := ⟨_, rfl⟩
      have hLl : L.length = l.length := by rw [← hL, List.length_set]
      rw [hL] at hset ⊢
      have hcol : ((rowsVC L).flatten ++ spare.map AV.v).length = cap * 3 := by rw [List.length_append, flenVC, hLl]; exact hsp2
      have hck := chunksVC L (spare.map AV.v)
      generalize (rowsVC L).flatten ++ spare.map AV.v = C2 at *
      simp -implicitDefEqProofs [n12, n21, n1, n1', n2, n2', ed, hh]
      generalize (rowsVC l).flatten ++ spare.map AV.v = C1 at *
      simp [overlay, eVC] at hset
      simp -implicitDefEqProofs [n12, n21, n1, n1', n2, n2', hlt, hlt', hfit, hset]
      refine shiftK.freeze (b := b) (len := l.length) (cap := cap) 6 91 (rowsVC L) (by simp) (by simp) hck (by simp [hLl]) hcol ?_
      simp -implicitDefEqProofs
end Go.Proofs.YtjbbfiagijjdoaaGreat

/- Contracts: where something stands by its view (api.ViewIntent). Printed by sort/gen.py. No condition. -/
set_option linter.unusedSimpArgs false
set_option linter.unusedVariables false
set_option maxRecDepth 10000
namespace Go.Proofs.YtjbbfiagijjdoaaGreat
open Go Go.Rw Go.Proofs
-- a goal is never to be run by the elaborator
attribute [local irreducible] awp aops aop aopsE aeff

@[simp] theorem vTfVI : vT Tryz.prog 103 = some (1, false) := by kernel_rfl
def keyVI (x : PVI) : Int := nameV x.view
def rowsVI (l : List PVI) : List (List AV) := l.map eVI
@[simp] theorem rowsVI_length (l : List PVI) : (rowsVI l).length = l.length := by simp [rowsVI]
@[simp] theorem rowsVI_get (l : List PVI) (i : Nat) : (rowsVI l)[i]? = (l[i]?).map eVI := by simp [rowsVI]
@[simp] theorem rowsVI_nil : rowsVI [] = [] := rfl
@[simp] theorem rowsVI_append (l m : List PVI) : rowsVI l ++ rowsVI m = rowsVI (l ++ m) := by simp [rowsVI]
theorem rowsVI_one (l : List PVI) : ∀ r ∈ rowsVI l, r.length = 4 := by
  intro r hr
  obtain ⟨c, _, rfl⟩ := List.mem_map.1 hr
  rfl
@[simp] theorem rowsVI_rows (l : List PVI) : (∀ r : List AV, r ∈ rowsVI l → r.length = 4) ↔ True := iff_of_true (rowsVI_one l) trivial
theorem ofVI_spec (x : PVI) : ASpec Tryz.prog 80 [.agg (eVI x)] (· = .agg (eV x.view)) := by
  refine ASpec.of_awp Tryz.func80 (by kernel_rfl) rfl (by rw [Tryz.results80]) Tryz.ntmps80 ?_
  simp -implicitDefEqProofs [eVI]
  refine allocK.intro (fun b1 hb1 => ?_)
  simp -implicitDefEqProofs
  refine allocK.intro (fun b2 hb2 => ?_)
  have n12 : ¬ b1 = b2 := by rintro rfl; simp at hb2
  have n21 : ¬ b2 = b1 := fun h => n12 h.symm
  simp -implicitDefEqProofs [n12, n21, eV]
theorem shelvedVI_spec : ASpec Tryz.prog 79 [.fn 80 []] (· = .agg [.fn 80 []]) := by
  refine ASpec.of_awp Tryz.func79 (by kernel_rfl) rfl (by rw [Tryz.results79]) Tryz.ntmps79 ?_
  simp -implicitDefEqProofs
  refine allocK.intro (fun b1 hb1 => ?_)
  simp -implicitDefEqProofs
theorem placeKeyVI_spec (x : PVI) (b : Nat) (n : Int) (h : rightV x.view = true) : MSpec Tryz.prog 142 [.agg (eVI x), eI n, .ptr b 0] (one b [.fn 80 []]) (fun r h' => r = eI (cmpI (keyVI x) n) ∧ h' = one b [.fn 80 []]) := by
  refine MSpec.of_awp Tryz.func142 (by kernel_rfl) rfl (by rw [Tryz.results142]) Tryz.ntmps142 ?_
  simp -implicitDefEqProofs [eVI]
  refine allocK.intro (fun b1 hb1 => ?_)
  have n1 : ¬ b1 = b := by rintro rfl; simp at hb1
  have n2 : ¬ b = b1 := fun h => n1 h.symm
  simp -implicitDefEqProofs [n1, n2]
  refine CallK.with (ofVI_spec x) (by simp [eVI]) ?_
  simp -implicitDefEqProofs [eV]
  refine CallK.with (change_name x.view h) (by simp [eV]) ?_
  simp -implicitDefEqProofs
  refine CallK.eq (compare_int (nameV x.view) n) ?_
  simp -implicitDefEqProofs [n1, n2, keyVI]
def BsVII (l : List PVI) (n : Int) (g : FuncId) (b : Nat) (c : List AV) (t : Nat → AV) (h : Nat → Option (List AV)) : Prop := ∃ i j : Nat, t 0 = .sl .no (rowsVI l) ∧ t 1 = eI n ∧ t 2 = .fn g [.ptr b 0] ∧ t 8 = eI l.length ∧ t 9 = eI i ∧ t 10 = eI j ∧ i ≤ posK keyVI l n ∧ posK keyVI l n ≤ j ∧ j ≤ l.length ∧ h b = some c
def BsVIM (l : List PVI) (n : Int) (g : FuncId) (b : Nat) (c : List AV) (t : Nat → AV) (h : Nat → Option (List AV)) : Prop := t 0 = .sl .no (rowsVI l) ∧ t 1 = eI n ∧ t 2 = .fn g [.ptr b 0] ∧ t 8 = eI l.length ∧ t 9 = eI (posK keyVI l n) ∧ h b = some c
theorem bsearchVI_spec (g : FuncId) (b : Nat) (c : List AV) (l : List PVI) (n : Int) (hs : sortK keyVI l) (hl : l.length ≤ 1000000000) (hf : ∀ x ∈ l, MSpec Tryz.prog g [.agg (eVI x), eI n, .ptr b 0] (one b c) (fun r h' => r = eI (cmpI (keyVI x) n) ∧ h' = one b c)) :
    MSpec Tryz.prog 140 [.sl .no (rowsVI l), eI n, .fn g [.ptr b 0]] (one b c) (fun r h' => r = .tup [eI (posK keyVI l n), .v (.bool (hasK keyVI l n))] ∧ h' = one b c) := by
  have hp := posK_le (key := keyVI) l n
  refine MSpec.of_awp Tryz.func140 (by kernel_rfl) rfl (by rw [Tryz.results140]) Tryz.ntmps140 ?_
  simp -implicitDefEqProofs
  intro _
  refine loopK.post (BsVII l n g b c) (fun t => natOf (t 10) - natOf (t 9)) (BsVIM l n g b c) ?_ ?_ ?_
  · exact ⟨0, l.length, by simp, by simp, by simp, by simp, by simp, by simp, by omega, hp, by omega, by simp⟩
  · rintro t hh ⟨i, j, g0, g1, g2, g8, g9, g10, hi, hj, hjl, hb⟩
    have hm9 : natOf (t 9) = i := by rw [g9]; simp
    have hm10 : natOf (t 10) = j := by rw [g10]; simp
    by_cases hlt : i < j
    · have hlt' : (i : Int) < (j : Int) := by omega
      have w1 : IntKind.i64.wrap ((i : Int) + (j : Int)) = (i : Int) + (j : Int) := w64 (by omega) (by omega)
      have w2 : IntKind.u64.wrap ((i : Int) + (j : Int)) = (i : Int) + (j : Int) := by
        simp [IntKind.wrap, IntKind.bits, IntKind.signed]; omega
      obtain ⟨m, hm⟩ : ∃ m : Nat, m = (i + j) / 2 := ⟨_, rfl⟩
      have w3 : ((i : Int) + (j : Int)) / 2 = (m : Int) := by omega
      have w4 : IntKind.i64.wrap (m : Int) = (m : Int) := w64 (by omega) (by omega)
      have w4' : IntKind.u64.wrap (m : Int) = (m : Int) := by
        simp [IntKind.wrap, IntKind.bits, IntKind.signed]; omega
      have w5 : IntKind.i64.wrap ((m : Int) + 1) = ((m + 1 : Nat) : Int) := by rw [w64 (by omega) (by omega)]; omega
      have hml : m < l.length := by omega
      obtain ⟨x, hx⟩ : ∃ x, l[m]? = some x := ⟨l[m], by simp [hml]⟩
      have hpk := posK_lt hs (n := n) hx
      have s1 : Int.fdiv ((i : Int) + (j : Int)) (2 ^ min 1 IntKind.u64.bits) = (m : Int) := by
        have := shr_u64 (i + j) 1 (by omega)
        rw [hm]
        simpa using this
      have hml' : (m : Int) < (l.length : Int) := by omega
      simp -implicitDefEqProofs [g0, g1, g2, g9, g10, hlt', hlt, w1, w2, w3, w4, w4', hx, hml', eVI, aNum_shr, s1]
      refine CallK.one (hf x (List.mem_of_getElem? hx)) (by simp [eVI]) (by simp [hb, Weak.refl]) ?_
      have hcm : (cmpI (keyVI x) n < 0) ↔ keyVI x < n := by
        unfold cmpI
        by_cases h1 : keyVI x < n
        · simp [h1]
        · by_cases h2 : n < keyVI x <;> simp [h1, h2]
      by_cases hk : keyVI x < n
      · have hk1 := hcm.2 hk
        have hk2 := hpk.1 hk
        simp -implicitDefEqProofs [hk1, w5]
        exact ⟨⟨m + 1, j, by simp [g0], by simp [g1], by simp [g2], by simp [g8], by simp, by simp [g10], by omega, hj, hjl, by simp⟩, by first | omega | (simp [g9, g10]; omega)⟩
      · have hk1 : ¬ cmpI (keyVI x) n < 0 := fun h => hk (hcm.1 h)
        have hk2 : posK keyVI l n ≤ m := by
          rcases Nat.lt_or_ge m (posK keyVI l n) with h | h
          · exact absurd (hpk.2 h) hk
          · exact h
        simp -implicitDefEqProofs [hk1]
        exact ⟨⟨i, m, by simp [g0], by simp [g1], by simp [g2], by simp [g8], by simp [g9], by simp, hi, hk2, by omega, by simp⟩, by first | omega | (simp [g9, g10]; omega) | (simp [g9, g10, upd]; omega)⟩
    · have hlt' : ¬ (i : Int) < (j : Int) := by omega
      obtain rfl : i = posK keyVI l n := by omega
      simp -implicitDefEqProofs [g9, g10, hlt', hlt]
      exact ⟨by simp [g0], by simp [g1], by simp [g2], by simp [g8], by simp [g9], hb⟩
  rintro t hh ⟨g0, g1, g2, g8, g9, hb⟩
  have hcz : ∀ x : PVI, (cmpI (keyVI x) n = 0) ↔ keyVI x = n := fun x => by
    unfold cmpI
    by_cases h1 : keyVI x < n
    · have h3 : ¬ keyVI x = n := by omega
      simp [h1, h3]
    · by_cases h2 : n < keyVI x
      · have h3 : ¬ keyVI x = n := by omega
        simp [h1, h2, h3]
      · have h3 : keyVI x = n := by omega
        simp [h3]
  have hat := hasK_at hs n
  generalize posK keyVI l n = p at *
  by_cases hlt : p < l.length
  · have hlt' : (p : Int) < (l.length : Int) := by omega
    obtain ⟨x, hx⟩ : ∃ x, l[p]? = some x := ⟨l[p], by simp [hlt]⟩
    simp -implicitDefEqProofs [g0, g1, g2, g8, g9, hlt', hx, eVI]
    refine CallK.one (hf x (List.mem_of_getElem? hx)) (by simp [eVI]) (by simp [hb, Weak.refl]) ?_
    by_cases hk : keyVI x = n
    · have h1 := (hcz x).2 hk
      have h2 : hasK keyVI l n = true := by
        rcases hat with ⟨y, h3, h4, h5⟩ | ⟨h3, h4⟩
        · exact h5
        · exact absurd hk (h3 x hx)
      simp -implicitDefEqProofs [h1, h2, g9, hb, Weak.refl]
    · have h1 : ¬ cmpI (keyVI x) n = 0 := fun h => hk ((hcz x).1 h)
      have h2 : hasK keyVI l n = false := by
        rcases hat with ⟨y, h3, h4, h5⟩ | ⟨h3, h4⟩
        · rw [hx] at h3; cases h3; exact absurd h4 hk
        · exact h4
      simp -implicitDefEqProofs [h1, h2, g9, hb, Weak.refl]
  · have hlt' : ¬ (p : Int) < (l.length : Int) := by omega
    have h2 : hasK keyVI l n = false := by
      rcases hat with ⟨y, h3, h4, h5⟩ | ⟨h3, h4⟩
      · rw [List.getElem?_eq_none (by omega)] at h3; simp at h3
      · exact h4
    simp -implicitDefEqProofs [g0, g1, g2, g8, g9, hlt', h2, hb, Weak.refl]
theorem placeVI_spec (l : List PVI) (v : PView) (hs : sortK keyVI l) (hl : l.length ≤ 1000000000) (hr : ∀ x ∈ l, rightV x.view = true) (hv : rightV v = true) :
    ASpec Tryz.prog 81 [.agg [.fn 80 []], .sl .no (rowsVI l), .agg (eV v)] (· = .tup [eI (posK keyVI l (nameV v)), .v (.bool (hasK keyVI l (nameV v)))]) := by
  refine ASpec.of_awp Tryz.func81 (by kernel_rfl) rfl (by rw [Tryz.results81]) Tryz.ntmps81 ?_
  simp -implicitDefEqProofs [eV]
  refine allocK.intro (fun b1 hb1 => ?_)
  simp -implicitDefEqProofs
  refine allocK.intro (fun b2 hb2 => ?_)
  have n12 : ¬ b1 = b2 := by rintro rfl; simp at hb2
  have n21 : ¬ b2 = b1 := fun h => n12 h.symm
  simp -implicitDefEqProofs [n12, n21]
  refine CallK.with (change_name v hv) (by simp [eV]) ?_
  simp -implicitDefEqProofs [n12, n21]
  refine CallK.one (bsearchVI_spec 142 b1 [.fn 80 []] l (nameV v) hs hl (fun x hx => placeKeyVI_spec x b1 (nameV v) (hr x hx))) rfl (by simp [n12, Weak.refl]) ?_
  simp -implicitDefEqProofs
end Go.Proofs.YtjbbfiagijjdoaaGreat

/- Contracts: something is put in its place (api.ViewIntent). Printed by sort/gen.py. No condition. -/
set_option linter.unusedSimpArgs false
set_option linter.unusedVariables false
set_option maxRecDepth 10000
namespace Go.Proofs.YtjbbfiagijjdoaaGreat
open Go Go.Rw Go.Proofs
-- a goal is never to be run by the elaborator
attribute [local irreducible] awp aops aop aopsE aeff

theorem deadVI (l : List PVI) : (rowsVI l).flatten.map dead1 = (rowsVI l).flatten := by
  induction l with
  | nil => rfl
  | cons x l ih => simp [rowsVI, eVI, dead1] at *; try exact ih
theorem dead2VI (l : List PVI) : (rowsVI l).map (List.map dead1) = rowsVI l := by
  induction l with
  | nil => rfl
  | cons x l ih => simp [rowsVI, eVI, dead1] at *; try exact ih
theorem flenVI (l : List PVI) : (rowsVI l).flatten.length = l.length * 4 := by
  rw [flat_len (rowsVI_one l)]; simp
theorem chunksVI (l : List PVI) (sp : List AV) : chunks ((rowsVI l).flatten ++ sp) (rowsVI l) 4 := by
  refine ⟨rowsVI_one l, ?_, ?_, ?_⟩
  · rw [show (rowsVI l).length * 4 = (rowsVI l).flatten.length by rw [flenVI]; simp, List.take_left, deadVI]
  · rw [List.length_append, flenVI]; simp
  · intro r hr x hx
    obtain ⟨c, _, rfl⟩ := List.mem_map.1 hr
    simp [eVI] at hx
    rcases hx with rfl | rfl | rfl | rfl <;> rfl
def ClVIR (l : List PVI) (r : AV) : Prop := (∃ tag, (tag = .nil ∨ tag = .full) ∧ r = .sl tag [] ∧ l = []) ∨ (rowsVI l ≠ [] ∧ r = .sl (.live 93 4 true) (rowsVI l))
theorem cloneVI_own (l : List PVI) (hl : l.length * 32 ≤ 140737488355328) : ASpec Tryz.prog 128 [.sl .no (rowsVI l)] (ClVIR l) := by
  refine ASpec.of_awp Tryz.func128 (by kernel_rfl) rfl (by rw [Tryz.results128]) Tryz.ntmps128 ?_
  simp -implicitDefEqProofs
  refine nilK.intro (fun h => ?_) ?_
  · have h' : l = [] := by simpa [rowsVI] using h
    simp -implicitDefEqProofs [h]; exact .inl ⟨_, .inl rfl, rfl, h'⟩
  · simp -implicitDefEqProofs [hl]
    by_cases h : l = []
    · subst h; exact .inl ⟨_, .inr rfl, rfl, rfl⟩
    · have h' : rowsVI l ≠ [] := by simpa [rowsVI] using h
      exact .inr ⟨h', by rw [appTag_full h']⟩
theorem insertVI_mn (x : PVI) : MSpec Tryz.prog 159 [.mn, eI 0, .sl .no [eVI x]] (fun _ => none) (fun r h' => ∃ b c sp, r = .sm b 0 1 c ∧ h' = one b (eVI x ++ sp) ∧ 4 + sp.length = c * 4) := by
  refine MSpec.of_awp Tryz.func159 (by kernel_rfl) rfl (by rw [Tryz.results159]) Tryz.ntmps159 ?_
  simp -implicitDefEqProofs [eVI]
  refine growMnK.intro (fun h => by simp at h) fun _ b c sp hb hc hsp => ?_
  simp -implicitDefEqProofs
  simp at hsp
  exact ⟨_, SubH_one.2 (by simp; exact Weak.refl _), b, c, ⟨rfl, rfl⟩, sp, rfl, by omega⟩
theorem lay_atVI (P T X : List AV) : overlay (P ++ T) P.length X = P ++ X ++ T.drop X.length := by
  unfold overlay
  rw [List.take_left, List.drop_append, List.drop_of_length_le (by omega), List.nil_append, Nat.add_sub_cancel_left]
theorem lay_twiceVI (P T X Y : List AV) : overlay (overlay (P ++ T) P.length X) (P.length + X.length) Y = P ++ X ++ Y ++ T.drop (X.length + Y.length) := by
  rw [lay_atVI, ← List.length_append, lay_atVI, List.drop_drop]
theorem lay_backVI (P T R Q : List AV) (h : R.length ≤ T.length) : overlay (overlay (P ++ T) (P.length + R.length) Q) P.length R = P ++ R ++ Q ++ T.drop (R.length + Q.length) := by
  have e : overlay (P ++ T) (P.length + R.length) Q = P ++ (T.take R.length ++ (Q ++ T.drop (R.length + Q.length))) := by
    unfold overlay
    rw [List.take_append, List.take_of_length_le (by omega), Nat.add_sub_cancel_left, List.drop_append, List.drop_of_length_le (by omega), List.nil_append, show P.length + R.length + Q.length - P.length = R.length + Q.length by omega]
    simp only [List.append_assoc]
  rw [e, lay_atVI, List.drop_append, List.drop_of_length_le (by rw [List.length_take]; omega), List.nil_append, List.length_take, Nat.min_eq_left h, Nat.sub_self, List.drop_zero]
  simp only [List.append_assoc]
/-- behind an insertion -/
def insVI (l : List PVI) (i : Nat) (x : PVI) : List PVI := l.take i ++ x :: l.drop i
theorem insertVI_sm (l : List PVI) (i b cap : Nat) (sp : List AV) (x : PVI) (h0 : 0 < l.length) (hi : i ≤ l.length) (hl : l.length ≤ 1000000000) (hsp : l.length * 4 + sp.length = cap * 4) :
    MSpec Tryz.prog 159 [.sm b 0 l.length cap, eI i, .sl .no [eVI x]] (one b ((rowsVI l).flatten ++ sp)) (fun r h' => ∃ b' c' sp', r = .sm b' 0 (l.length + 1) c' ∧ h' = one b' ((rowsVI (insVI l i x)).flatten ++ sp') ∧ (l.length + 1) * 4 + sp'.length = c' * 4) := by
  refine MSpec.of_awp Tryz.func159 (by kernel_rfl) rfl (by rw [Tryz.results159]) Tryz.ntmps159 ?_
  have hlen := flenVI l
  have hcl : ((rowsVI l).flatten ++ sp).length = cap * 4 := by rw [List.length_append, hlen]; exact hsp
  have w1 : IntKind.i64.wrap ((l.length : Int) + 1) = ((l.length + 1 : Nat) : Int) := by rw [w64 (by omega) (by omega)]; omega
  generalize hA : (rowsVI l).flatten ++ sp = A at *
  have hne : ¬ l = [] := by rintro rfl; simp at h0
  by_cases hil : i = l.length
  · subst hil
    simp -implicitDefEqProofs [eVI, hne, hcl]
    intro _
    refine ⟨by omega, growSmK.intro fun b' c' spare hb' hc' hsp' => ?_⟩
    have htk : (A.take (l.length * 4)).map dead1 = (rowsVI l).flatten := by rw [← hA, ← hlen, List.take_left, deadVI]
    have hfin : (A.take (l.length * 4)).map dead1 ++ [eVI x].flatten.map dead1 ++ spare = (rowsVI (insVI l l.length x)).flatten ++ spare := by
      rw [htk]; simp [insVI, rowsVI, eVI, dead1]
    simp only [eVI] at hfin
    rw [hfin]
    simp -implicitDefEqProofs
    simp at hsp'
    exact ⟨_, SubH_one.2 (by simp; exact Weak.refl _), b', c', ⟨rfl, rfl⟩, spare, rfl, by omega⟩
  · have hlt : i < l.length := by omega
    have hil' : ¬ (i : Int) = (l.length : Int) := by omega
    have hlt' : (i : Int) < (l.length : Int) := by omega
    have hle : i ≤ l.length := hi
    have hti : (l.take i).length = i := by rw [List.length_take]; omega
    have hP : (rowsVI (l.take i)).flatten.length = i * 4 := by rw [flenVI, hti]
    have hQl : (rowsVI (l.drop i)).flatten.length = (l.length - i) * 4 := by rw [flenVI, List.length_drop]
    have hsplit : (rowsVI l).flatten = (rowsVI (l.take i)).flatten ++ (rowsVI (l.drop i)).flatten := by
      rw [← List.flatten_append, rowsVI_append, List.take_append_drop]
    have hins : (rowsVI (insVI l i x)).flatten = (rowsVI (l.take i)).flatten ++ eVI x ++ (rowsVI (l.drop i)).flatten := by
      simp [insVI, rowsVI]
    have hA2 : A = (rowsVI (l.take i)).flatten ++ ((rowsVI (l.drop i)).flatten ++ sp) := by rw [← hA, hsplit, List.append_assoc]
    have hPd := deadVI (l.take i)
    have hQd := deadVI (l.drop i)
    have hQc : ∀ x ∈ (rowsVI (l.drop i)).flatten, cellAV x = true := by
      intro y hy
      obtain ⟨r, hr, hy⟩ := List.mem_flatten.1 hy
      obtain ⟨c, _, rfl⟩ := List.mem_map.1 hr
      simp [eVI] at hy
      rcases hy with rfl | rfl | rfl | rfl <;> rfl
    generalize (rowsVI (insVI l i x)).flatten = W at *
    generalize (rowsVI (l.take i)).flatten = P1 at *
    generalize (rowsVI (l.drop i)).flatten = Q at *
    have hx3 : (eVI x).length = 4 := rfl
    have hq1 : (A.drop (i * 4)).take ((l.length - i) * 4) = Q := by rw [hA2, ← hP, List.drop_left, ← hQl, List.take_left]
    have hq2 : ((A.map dead1).drop (i * 4)).take ((l.length - i) * 4) = Q := by rw [← List.map_drop, ← List.map_take, hq1, hQd]
    have ht1 : ∀ r : List AV, [r].take (l.length + 1 - i) = [r] := fun r => List.take_of_length_le (by simp; omega)
    have ht2 : [4].take (l.length + 1 - i) = [4] := List.take_of_length_le (by simp; omega)
    have w3 : IntKind.i64.wrap ((i : Int) + 1) = ((i + 1 : Nat) : Int) := by rw [w64 (by omega) (by omega)]; omega
    have l1 : i < l.length + 1 := by omega
    have l1' : (i : Int) < (l.length : Int) + 1 := by omega
    have l2 : i + 1 < l.length + 1 := by omega
    have l2' : (i : Int) + 1 < (l.length : Int) + 1 := by omega
    have l2'' : (i : Int) + 1 ≤ (l.length : Int) := by omega
    have l3 : (0 : Int) ≤ (i : Int) + 1 := by omega
    by_cases hroom : l.length + 1 ≤ cap
    · have hr' : ¬ (cap : Int) < (l.length : Int) + 1 := by omega
      have hr2 : (l.length : Int) + 1 ≤ (cap : Int) := by omega
      have hr3 : (l.length : Int) + 1 ≤ 281474976710656 := by omega
      have hr4 : (0 : Int) < (l.length : Int) + 1 := by omega
      simp -implicitDefEqProofs [eVI, hne, hcl, hil, hil', hlt, hlt', hle, w1]
      intro _
      refine capSm (e := (93, 4, 32)) (b := b) (o := 0) (n := l.length) (c := cap) (by simp) (by simp) ?_
      simp -implicitDefEqProofs [eVI, hne, hcl, hil, hil', hlt, hlt', hle, w1, hr', hr2, hr3, hr4]
      simp -implicitDefEqProofs [l1, l1', l2, l2', l2'', l3, w3]
      refine CallK.mh (h := one b A) (MSpec.overlaps (tS := 33) (tR := 4) (e := 93) (sz := 4) (by_ := 32) (tag := .no) (rows := [eVI x]) (b := b) (off := (i + 1) * 4) (n := l.length - i) (c := cap - (i + 1)) (cells := A) Tryz.func197 (by kernel_rfl) (by kernel_rfl) (by kernel_rfl) (by kernel_rfl) (by simp) (by omega) (by simp) (by simp [eVI]) (one_self _ _)) (by simp [eVI]) (SubH_one.2 (by simp [Weak.refl])) ?_
      rintro _ h' H ⟨rfl, rfl⟩ - hH -
      have k1 := hH b _ (one_self _ _)
      clear hH
      have hroom2 : Q.length + sp.length = cap * 4 - i * 4 := by
        rw [hA2, List.length_append, List.length_append, hP] at hcl; omega
      have hov := lay_backVI P1 (Q ++ sp) (eVI x) Q (by rw [List.length_append, hroom2, hx3]; omega)
      rw [hP, hx3, ← hA2, show i * 4 + 4 = (i + 1) * 4 by omega] at hov
      obtain ⟨C1, hC1⟩ : ∃ C, overlay A ((i + 1) * 4) Q = C := ⟨_, rfl⟩
      have hC1l : C1.length = cap * 4 := by
        rw [← hC1]; unfold overlay
        rw [List.length_append, List.length_append, List.length_take, List.length_drop, hcl, hQl]; omega
      rw [hC1] at hov
      obtain ⟨C2, hC2⟩ : ∃ C, overlay C1 (i * 4) (eVI x) = C := ⟨_, rfl⟩
      rw [hC2] at hov
      have hC2' := hC2
      have hmin : min (l.length + 1 - i) (l.length - i) = l.length - i := by omega
      simp [overlay, eVI] at hC1 hC2
      simp -implicitDefEqProofs
      refine regionK.modes [b] [.q, .q, .q, .q, .r, .q, .q, .r, .l] follows_mixed (by kernel_rfl) ?_
      simp -implicitDefEqProofs [l1, l1', l2, l2', l2'', l3, hlt, hlt', hr4, hcl, w3, maskH, k1, hq1, hq2, hQd, hmin, hC1]
      refine ⟨⟨by omega, by omega, fun y hy => hQc y hy⟩, ?_⟩
      simp -implicitDefEqProofs [l1, l1', ht1, ht2, hC1l, hC2]
      have hov2 : C2 = W ++ (Q ++ sp).drop (4 + Q.length) := by rw [hov, hins]
      have hC2l : C2.length = cap * 4 := by
        rw [← hC2']; unfold overlay
        rw [List.length_append, List.length_append, List.length_take, List.length_drop, hC1l, hx3]; omega
      have hWl : W.length = (l.length + 1) * 4 := by
        rw [hins, List.length_append, List.length_append, hP, hx3, hQl]; omega
      refine ⟨by omega, one b C2, SubH_one.2 (by simp [Weak.refl]), b, cap, ⟨rfl, rfl⟩, _, by rw [hov2], ?_⟩
      have := congrArg List.length hov2
      rw [List.length_append, hC2l, hWl] at this
      omega
    · have hr' : (cap : Int) < (l.length : Int) + 1 := by omega
      simp -implicitDefEqProofs [eVI, hne, hcl, hil, hil', hlt, hlt', hle, w1]
      intro _
      refine capSm (e := (93, 4, 32)) (b := b) (o := 0) (n := l.length) (c := cap) (by simp) (by simp) ?_
      simp -implicitDefEqProofs [eVI, hne, hcl, hil, hil', hlt, hlt', hle, w1, hr']
      have w2 : IntKind.i64.wrap ((l.length : Int) + 1 - (i : Int)) = ((l.length + 1 - i : Nat) : Int) := by rw [w64 (by omega) (by omega)]; omega
      have hsl : (if 0 < i then some (AV.sm b 0 i cap) else if 0 = (i : Int) then some (AV.sm b 0 0 cap) else none) = some (.sm b 0 i cap) := by
        by_cases h : 0 < i
        · rw [if_pos h]
        · have h2 : i = 0 := by omega
          subst h2; simp
      have hik : i + (l.length + 1 - i) = l.length + 1 := by omega
      simp -implicitDefEqProofs [hsl, w2]
      refine zerosSm (e := 93) (sz := 4) (by_ := 32) (ku := .i64) (z := [eI 0, eI 0, eI 0, eI 0]) (l.length + 1 - i) b i cap A (by decide) (by simp) (by simp) (by simp) rfl (by omega) (by omega) (by simp) (by simp [w1, w2]) (by simp) hcl (by omega) (by omega) (by omega) fun b' c' spare hb' hc' hsp' => ?_
      have nb : ¬ b' = b := by rintro rfl; simp at hb'
      have nb' : ¬ b = b' := fun h => nb h.symm
      have hB : ((A.take (i * 4)).map dead1 ++ spare).length = c' * 4 := by
        rw [List.length_append, List.length_map, List.length_take]; omega
      rw [hik] at hc' ⊢
      have hB2 : (A.take (i * 4)).map dead1 ++ spare = P1 ++ spare := by rw [hA2, ← hP, List.take_left, hPd]
      rw [hB2] at hB ⊢
      have hov := lay_twiceVI P1 spare (eVI x) Q
      rw [hP, hx3] at hov
      have hsl2 : spare.length = c' * 4 - i * 4 := by rw [List.length_append, hP] at hB; omega
      obtain ⟨C1, hC1⟩ : ∃ C, overlay (P1 ++ spare) (i * 4) (eVI x) = C := ⟨_, rfl⟩
      have hC1l : C1.length = c' * 4 := by
        rw [← hC1]; unfold overlay
        rw [List.length_append, List.length_append, List.length_take, List.length_drop, hB, hx3]; omega
      rw [hC1] at hov
      rw [show i * 4 + 4 = (i + 1) * 4 by omega] at hov
      generalize P1 ++ spare = B at *
      obtain ⟨C2, hC2⟩ : ∃ C, overlay C1 ((i + 1) * 4) Q = C := ⟨_, rfl⟩
      rw [hC2] at hov
      have hC2' := hC2
      simp [overlay, eVI] at hC1 hC2
      simp -implicitDefEqProofs [nb, nb', l1, l1', hB, ht1, ht2, hC1]
      refine ⟨by omega, ?_⟩
      refine regionK.modes [b', b] [.q, .q, .q, .q, .r, .q, .q, .r, .l] follows_mixed (by kernel_rfl) ?_
      simp -implicitDefEqProofs [nb, nb', l1, l1', l2, l2', l2'', l3, hlt, hlt', hB, hcl, w3, maskH, hC1l, hq1, hq2, hQd, hC2]
      have hov2 : C2 = W ++ spare.drop ((eVI x).length + Q.length) := by rw [hov, hins, hx3]
      have hC2l : C2.length = c' * 4 := by
        rw [← hC2']; unfold overlay
        rw [List.length_append, List.length_append, List.length_take, List.length_drop, hC1l, hQl]; omega
      have hWl : W.length = (l.length + 1) * 4 := by
        rw [hins, List.length_append, List.length_append, hP, hx3, hQl]; omega
      refine ⟨⟨by omega, by omega, fun y hy => hQc y hy⟩, one b' C2, SubH_one.2 (by simp [Weak.refl]), b', c', ⟨rfl, rfl⟩, _, by rw [hov2], ?_⟩
      have := congrArg List.length hov2
      rw [List.length_append, hC2l, hWl] at this
      omega
end Go.Proofs.YtjbbfiagijjdoaaGreat

/- Contracts: a list with something put in its place (api.ViewIntent). Printed by sort/gen.py. No condition. -/
set_option linter.unusedSimpArgs false
set_option linter.unusedVariables false
set_option maxRecDepth 10000
namespace Go.Proofs.YtjbbfiagijjdoaaGreat
open Go Go.Rw Go.Proofs
-- a goal is never to be run by the elaborator
attribute [local irreducible] awp aops aop aopsE aeff

theorem putKVI_new {l : List PVI} {x : PVI} (hs : sortK keyVI l) (hh : hasK keyVI l (keyVI x) = false) : putK keyVI l x = insVI l (posK keyVI l (keyVI x)) x := by
  obtain ⟨h1, h2⟩ := take_posK hs (keyVI x)
  unfold putK insVI
  rw [h1, h2]
  congr 2
  refine List.filter_congr fun y hy => ?_
  have : ¬ keyVI y = keyVI x := fun h => by
    have h3 : hasK keyVI l (keyVI x) = true := by rw [hasK, List.any_eq_true]; exact ⟨y, hy, by simpa using h⟩
    rw [hh] at h3; simp at h3
  by_cases h : keyVI x < keyVI y
  · have : ¬ keyVI y < keyVI x := by omega
    simp [h, this]
  · have : keyVI y < keyVI x := by omega
    simp [h, this]
theorem putKVI_old {l : List PVI} {x : PVI} (hs : sortK keyVI l) (hh : hasK keyVI l (keyVI x) = true) : putK keyVI l x = l.set (posK keyVI l (keyVI x)) x ∧ posK keyVI l (keyVI x) < l.length := by
  obtain ⟨h1, h2⟩ := take_posK hs (keyVI x)
  rcases hasK_at hs (keyVI x) with ⟨y, hy, hk, _⟩ | ⟨_, h3⟩
  · have hlt : posK keyVI l (keyVI x) < l.length := by
      rcases Nat.lt_or_ge (posK keyVI l (keyVI x)) l.length with h | h
      · exact h
      · rw [List.getElem?_eq_none h] at hy; simp at hy
    refine ⟨?_, hlt⟩
    rw [List.set_eq_take_append_cons_drop, if_pos hlt, h1]
    unfold putK
    congr 2
    have hd : l.drop (posK keyVI l (keyVI x)) = y :: l.drop (posK keyVI l (keyVI x) + 1) := by
      rw [List.drop_eq_getElem_cons hlt]; rw [List.getElem?_eq_getElem hlt] at hy; rw [Option.some.inj hy]
    have hsd : (l.drop (posK keyVI l (keyVI x))).Pairwise fun a b => keyVI a < keyVI b := List.Pairwise.sublist (List.drop_sublist _ _) hs
    rw [hd, List.pairwise_cons] at hsd
    have e1 : l.filter (fun z => decide (keyVI x < keyVI z)) = (l.filter (fun z => decide (¬ keyVI z < keyVI x))).filter (fun z => decide (keyVI x < keyVI z)) := by
      rw [List.filter_filter]
      refine List.filter_congr fun z _ => ?_
      by_cases h : keyVI x < keyVI z
      · have : ¬ keyVI z < keyVI x := by omega
        simp [h, this]
      · simp [h]
    rw [e1, ← h2, hd, List.filter_cons_of_neg (by simp [hk])]
    refine List.filter_eq_self.2 fun z hz => ?_
    have := hsd.1 z hz
    simp; omega
  · rw [hh] at h3; simp at h3
theorem putVI_spec (l : List PVI) (x : PVI) (hs : sortK keyVI l) (hl : l.length ≤ 1000000) (hr : ∀ y ∈ l, rightV y.view = true) (hx : rightV x.view = true) :
    ASpec Tryz.prog 103 [.agg [.fn 80 []], .sl .no (rowsVI l), .agg (eVI x)] (fun r => ∃ tag, r = .sl tag (rowsVI (putK keyVI l x))) := by
  refine ASpec.of_awpS Tryz.func103 (by kernel_rfl) rfl (by rw [Tryz.results103]) Tryz.ntmps103 ?_
  simp -implicitDefEqProofs [eVI]
  refine allocK.intro (fun b1 hb1 => ?_)
  simp -implicitDefEqProofs
  refine allocK.intro (fun b2 hb2 => ?_)
  have n12 : ¬ b1 = b2 := by rintro rfl; simp at hb2
  have n21 : ¬ b2 = b1 := fun h => n12 h.symm
  simp -implicitDefEqProofs [n12, n21]
  refine regionK.intro 12 follows_mixed (by kernel_rfl) ?_
  simp -implicitDefEqProofs [n12, n21]
  refine CallQ.with (ofVI_spec x) (by simp [eVI]) ?_
  simp -implicitDefEqProofs [n12, n21]
  refine CallQ.with (placeVI_spec l x.view hs (by omega) hr hx) (by simp [eV]) ?_
  have hpl := posK_le (key := keyVI) l (nameV x.view)
  simp -implicitDefEqProofs [n12, n21]
  have ek : nameV x.view = keyVI x := rfl
  rw [ek] at *
  have hcl := cloneVI_own l (by omega)
  refine CallK.own hcl (by simp) ?_
  rintro r (⟨tag, htag, rfl, hl0⟩ | ⟨hne, rfl⟩)
  · left
    refine ⟨tag, htag, rfl, ?_⟩
    subst hl0
    simp -implicitDefEqProofs [hasK, posK, n12, n21]
    refine CallK.fresh (insertVI_mn x) (by simp [eVI]) ?_
    rintro _ h' H ⟨b, c, sp, rfl, rfl, hsp⟩ - hH -
    have k1 := hH b _ (one_self _ _)
    clear hH
    simp -implicitDefEqProofs
    refine shiftK.freeze (b := b) (len := 1) (cap := c) 6 93 (rowsVI [x]) (by simp) (cells := eVI x ++ sp) k1 (by simpa [rowsVI] using chunksVI [x] sp) (by simp) ?_ ?_
    · rw [List.length_append, show (eVI x).length = 4 from rfl]; exact hsp
    have hp : putK keyVI [] x = [x] := rfl
    simp -implicitDefEqProofs [hp]
  · right
    refine ⟨_, _, _, _, rfl, hne, .inl rfl, fun b cap spare hb hcap hsp => ?_⟩
    have n1 : ¬ b = b1 := by rintro rfl; simp [n12] at hb
    have n1' : ¬ b1 = b := fun h => n1 h.symm
    have n2 : ¬ b = b2 := by rintro rfl; simp at hb
    have n2' : ¬ b2 = b := fun h => n2 h.symm
    have ed := dead2VI l
    have hl0 : 0 < l.length := by
      cases l with
      | nil => exact absurd rfl hne
      | cons => simp
    have hsp2 : l.length * 4 + (spare.map AV.v).length = cap * 4 := by simp at hsp ⊢; omega
    have hcl2 : ((rowsVI l).flatten ++ spare.map AV.v).length = cap * 4 := by rw [List.length_append, flenVI]; exact hsp2
    cases hh : hasK keyVI l (keyVI x)
    · simp -implicitDefEqProofs [n12, n21, n1, n1', n2, n2', ed, hh]
      refine CallK.mh (insertVI_sm l (posK keyVI l (keyVI x)) b cap (spare.map AV.v) x hl0 hpl (by omega) hsp2) (by simp [eVI]) (SubH_one.2 (by simp [Weak.refl])) ?_
      rintro _ h' H ⟨b', c', sp', rfl, rfl, hlen⟩ - hH -
      have k1 := hH b' _ (one_self _ _)
      clear hH
      have hil : (insVI l (posK keyVI l (keyVI x)) x).length = l.length + 1 := by
        unfold insVI
        rw [List.length_append, List.length_take, List.length_cons, List.length_drop]; omega
      rw [putKVI_new hs hh]
      generalize insVI l (posK keyVI l (keyVI x)) x = L at *
      simp -implicitDefEqProofs
      refine shiftK.freeze (b := b') (len := l.length + 1) (cap := c') 6 93 (rowsVI L) (by simp) k1 (chunksVI L sp') (by simp [hil]) ?_ ?_
      · rw [List.length_append, flenVI, hil]; exact hlen
      simp -implicitDefEqProofs
    · obtain ⟨hpe, hlt⟩ := putKVI_old hs hh
      rw [hpe]
      have hset : overlay ((rowsVI l).flatten ++ spare.map AV.v) (posK keyVI l (keyVI x) * 4) (eVI x) = (rowsVI (l.set (posK keyVI l (keyVI x)) x)).flatten ++ spare.map AV.v := by
        rw [flat_set (rowsVI_one l) rfl (by simpa using hlt)]
        simp [rowsVI, List.map_set]
      have hfit : posK keyVI l (keyVI x) * 4 + 4 ≤ ((rowsVI l).flatten ++ spare.map AV.v).length := flat_fits (rowsVI_one l) (by simpa using hlt)
      generalize posK keyVI l (keyVI x) = p at *
      have hlt' : (p : Int) < (l.length : Int) := by omega
      obtain ⟨L, hL⟩ : ∃ L, l.set p x = L := ⟨_, rfl⟩
      have hLl : L.length = l.length := by rw [← hL, List.length_set]
      rw [hL] at hset ⊢
      have hcol : ((rowsVI L).flatten ++ spare.map AV.v).length = cap * 4 := by rw [List.length_append, flenVI, hLl]; exact hsp2
      have hck := chunksVI L (spare.map AV.v)
      generalize (rowsVI L).flatten ++ spare.map AV.v = C2 at *
      simp -implicitDefEqProofs [n12, n21, n1, n1', n2, n2', ed, hh]
      generalize (rowsVI l).flatten ++ spare.map AV.v = C1 at *
      simp [overlay, eVI] at hset
      simp -implicitDefEqProofs [n12, n21, n1, n1', n2, n2', hlt, hlt', hfit, hset]
      refine shiftK.freeze (b := b) (len := l.length) (cap := cap) 6 93 (rowsVI L) (by simp) (by simp) hck (by simp [hLl]) hcol ?_
      simp -implicitDefEqProofs
end Go.Proofs.YtjbbfiagijjdoaaGreat

/- Contracts: what a state tells. No condition. -/
set_option linter.unusedSimpArgs false
set_option linter.unusedVariables false
set_option maxRecDepth 10000
namespace Go.Proofs.YtjbbfiagijjdoaaGreat
open Go Go.Rw Go.Proofs
-- a goal is never to be run by the elaborator
attribute [local irreducible] awp aops aop aopsE aeff

/-- a state that can be -/
structure OkS (s : PState) : Prop where
  sb : sortK keyVB s.books
  sc : sortK keyVC s.cells
  si : sortK keyVI s.intents
  rb : ∀ x ∈ s.books, rightV x.view = true
  rc : ∀ x ∈ s.cells, rightV x.view = true
  ri : ∀ x ∈ s.intents, rightV x.view = true
  rh : rightV s.held = true
  lb : s.books.length ≤ 100000
  lc : s.cells.length ≤ 100000
  li : s.intents.length ≤ 100000
  bl : ∀ x ∈ s.books, x.book.length ≤ 100000
  cl : ∀ x ∈ s.cells, x.cells.length ≤ 100000
def bookS (s : PState) (v : PView) : List PEntry := match s.books[posK keyVB s.books (nameV v)]? with | some x => if hasK keyVB s.books (nameV v) = true then x.book else [] | none => []
def cellsS (s : PState) (v : PView) : List PCell := match s.cells[posK keyVC s.cells (nameV v)]? with | some x => if hasK keyVC s.cells (nameV v) = true then x.cells else [] | none => []
theorem new_spec (v : PView) : ASpec Tryz.prog 62 [.agg (eV v)] (· = .agg (eSt ⟨[], [], [], v, 0, 0⟩)) := by
  refine ASpec.of_awp Tryz.func62 (by kernel_rfl) rfl (by rw [Tryz.results62]) Tryz.ntmps62 ?_
  simp -implicitDefEqProofs [eV]
  refine allocK.intro (fun b1 hb1 => ?_)
  simp -implicitDefEqProofs
  refine allocK.intro (fun b2 hb2 => ?_)
  have n12 : ¬ b1 = b2 := by rintro rfl; simp at hb2
  have n21 : ¬ b2 = b1 := fun h => n12 h.symm
  simp -implicitDefEqProofs [n12, n21, eSt]
theorem book_spec (s : PState) (v : PView) (hs : OkS s) (hv : rightV v = true) : ASpec Tryz.prog 37 [.agg (eSt s), .agg (eV v)] (fun r => ∃ tag, r = .sl tag (eEs (bookS s v))) := by
  refine ASpec.of_awp Tryz.func37 (by kernel_rfl) rfl (by rw [Tryz.results37]) Tryz.ntmps37 ?_
  simp -implicitDefEqProofs [eV, eSt]
  refine allocK.intro (fun b1 hb1 => ?_)
  simp -implicitDefEqProofs
  refine allocK.intro (fun b2 hb2 => ?_)
  have n12 : ¬ b1 = b2 := by rintro rfl; simp at hb2
  have n21 : ¬ b2 = b1 := fun h => n12 h.symm
  simp -implicitDefEqProofs [n12, n21]
  refine regionK.intro 10 follows_mixed (by kernel_rfl) ?_
  simp -implicitDefEqProofs [n12, n21]
  refine CallQ.with shelvedVB_spec rfl ?_
  simp -implicitDefEqProofs [n12, n21]
  refine CallQ.with (placeVB_spec s.books v hs.sb (by have := hs.lb; omega) hs.rb hv) (by simp [eV, rowsVB]) ?_
  have hat := hasK_at hs.sb (nameV v)
  unfold bookS
  rcases hat with ⟨x, hx, hk, hh⟩ | ⟨_, hh⟩
  · rw [hx, hh]
    have hlt : posK keyVB s.books (nameV v) < s.books.length := by
      rcases Nat.lt_or_ge (posK keyVB s.books (nameV v)) s.books.length with h | h
      · exact h
      · rw [List.getElem?_eq_none h] at hx; simp at hx
    have hbl := hs.bl x (List.mem_of_getElem? hx)
    generalize posK keyVB s.books (nameV v) = p at *
    have hlt' : (p : Int) < (s.books.length : Int) := by omega
    simp -implicitDefEqProofs [n12, n21, hx, hlt', eVB]
    refine CallK.via (clone_entries x.book (by omega)) rfl ?_
    rintro _ ⟨tag, _, rfl⟩
    simp -implicitDefEqProofs
  · rw [hh]
    have e : ∀ o : Option PVB, (match o with | some x => if false = true then x.book else [] | none => []) = ([] : List PEntry) := fun o => by cases o <;> simp
    rw [e]
    simp -implicitDefEqProofs [n12, n21]
theorem cells_spec (s : PState) (v : PView) (hs : OkS s) (hv : rightV v = true) : ASpec Tryz.prog 40 [.agg (eSt s), .agg (eV v)] (fun r => ∃ tag, r = .sl tag (eCs (cellsS s v))) := by
  refine ASpec.of_awp Tryz.func40 (by kernel_rfl) rfl (by rw [Tryz.results40]) Tryz.ntmps40 ?_
  simp -implicitDefEqProofs [eV, eSt]
  refine allocK.intro (fun b1 hb1 => ?_)
  simp -implicitDefEqProofs
  refine allocK.intro (fun b2 hb2 => ?_)
  have n12 : ¬ b1 = b2 := by rintro rfl; simp at hb2
  have n21 : ¬ b2 = b1 := fun h => n12 h.symm
  simp -implicitDefEqProofs [n12, n21]
  refine regionK.intro 10 follows_mixed (by kernel_rfl) ?_
  simp -implicitDefEqProofs [n12, n21]
  refine CallQ.with shelvedVC_spec rfl ?_
  simp -implicitDefEqProofs [n12, n21]
  refine CallQ.with (placeVC_spec s.cells v hs.sc (by have := hs.lc; omega) hs.rc hv) (by simp [eV, rowsVC]) ?_
  have hat := hasK_at hs.sc (nameV v)
  unfold cellsS
  rcases hat with ⟨x, hx, hk, hh⟩ | ⟨_, hh⟩
  · rw [hx, hh]
    have hlt : posK keyVC s.cells (nameV v) < s.cells.length := by
      rcases Nat.lt_or_ge (posK keyVC s.cells (nameV v)) s.cells.length with h | h
      · exact h
      · rw [List.getElem?_eq_none h] at hx; simp at hx
    have hbl := hs.cl x (List.mem_of_getElem? hx)
    generalize posK keyVC s.cells (nameV v) = p at *
    have hlt' : (p : Int) < (s.cells.length : Int) := by omega
    simp -implicitDefEqProofs [n12, n21, hx, hlt', eVC]
    refine CallK.via (clone_cells x.cells (by omega)) rfl ?_
    rintro _ ⟨tag, _, rfl⟩
    simp -implicitDefEqProofs
  · rw [hh]
    have e : ∀ o : Option PVC, (match o with | some x => if false = true then x.cells else [] | none => []) = ([] : List PCell) := fun o => by cases o <;> simp
    rw [e]
    simp -implicitDefEqProofs [n12, n21]
def intentS (s : PState) (v : PView) : Option PView := match s.intents[posK keyVI s.intents (nameV v)]? with | some x => if hasK keyVI s.intents (nameV v) = true then some x.change else none | none => none
def intentA (s : PState) (v : PView) : AV := .tup [.agg (eV ((intentS s v).getD ⟨0, 0⟩)), .v (.bool (intentS s v).isSome)]
theorem intent_spec (s : PState) (v : PView) (hs : OkS s) (hv : rightV v = true) : ASpec Tryz.prog 31 [.agg (eSt s), .agg (eV v)] (· = intentA s v) := by
  refine ASpec.of_awp Tryz.func31 (by kernel_rfl) rfl (by rw [Tryz.results31]) Tryz.ntmps31 ?_
  simp -implicitDefEqProofs [eV, eSt]
  refine allocK.intro (fun b1 hb1 => ?_)
  simp -implicitDefEqProofs
  refine allocK.intro (fun b2 hb2 => ?_)
  have n12 : ¬ b1 = b2 := by rintro rfl; simp at hb2
  have n21 : ¬ b2 = b1 := fun h => n12 h.symm
  simp -implicitDefEqProofs [n12, n21]
  refine allocK.intro (fun b3 hb3 => ?_)
  have n13 : ¬ b1 = b3 := by rintro rfl; simp [n12] at hb3
  have n31 : ¬ b3 = b1 := fun h => n13 h.symm
  have n23 : ¬ b2 = b3 := by rintro rfl; simp at hb3
  have n32 : ¬ b3 = b2 := fun h => n23 h.symm
  simp -implicitDefEqProofs [n12, n21, n13, n31, n23, n32]
  refine regionK.intro 10 follows_mixed (by kernel_rfl) ?_
  simp -implicitDefEqProofs [n12, n21, n13, n31, n23, n32]
  refine CallQ.with shelvedVI_spec rfl ?_
  simp -implicitDefEqProofs [n12, n21, n13, n31, n23, n32]
  refine CallQ.with (placeVI_spec s.intents v hs.si (by have := hs.li; omega) hs.ri hv) (by simp [eV, rowsVI]) ?_
  have hat := hasK_at hs.si (nameV v)
  unfold intentA intentS
  rcases hat with ⟨x, hx, hk, hh⟩ | ⟨_, hh⟩
  · rw [hx, hh]
    have hlt : posK keyVI s.intents (nameV v) < s.intents.length := by
      rcases Nat.lt_or_ge (posK keyVI s.intents (nameV v)) s.intents.length with h | h
      · exact h
      · rw [List.getElem?_eq_none h] at hx; simp at hx
    generalize posK keyVI s.intents (nameV v) = p at *
    have hlt' : (p : Int) < (s.intents.length : Int) := by omega
    simp -implicitDefEqProofs [n12, n21, n13, n31, n23, n32, hx, hlt', eVI, eV]
  · rw [hh]
    have e : ∀ o : Option PVI, (match o with | some x => if false = true then some x.change else none | none => none) = (none : Option PView) := fun o => by cases o <;> simp
    rw [e]
    simp -implicitDefEqProofs [n12, n21, n13, n31, n23, n32, eV]
end Go.Proofs.YtjbbfiagijjdoaaGreat

/- Contracts: the state behind a record. No condition. -/
set_option linter.unusedSimpArgs false
set_option linter.unusedVariables false
set_option maxRecDepth 10000
namespace Go.Proofs.YtjbbfiagijjdoaaGreat
open Go Go.Rw Go.Proofs
-- a goal is never to be run by the elaborator
attribute [local irreducible] awp aops aop aopsE aeff

def applyS (s : PState) (r : PRec) : PState :=
  if r.kind = 1 then { s with books := putK keyVB s.books ⟨r.view, mergeE (bookS s r.view) [r.entry]⟩ }
  else if r.kind = 2 then { s with cells := putK keyVC s.cells ⟨r.view, mergeS (cellsS s r.view) [r.cell]⟩ }
  else if r.kind = 3 then (if withinV s.held r.view = true then { s with held := r.view } else s)
  else if r.kind = 4 then { s with last := max s.last r.n }
  else if r.kind = 5 then (if (intentS s r.view).isSome = true then s else { s with intents := putK keyVI s.intents ⟨r.view, r.cell.change⟩ })
  else if r.kind = 6 then { s with inc := max s.inc r.n }
  else s
theorem apply_spec (s : PState) (r : PRec) (hs : OkS s) (hv : rightV r.view = true) (hc : (cellsS s r.view ++ newsC (cellsS s r.view) [r.cell]).length ≤ 12 ∧ 0 < (cellsS s r.view ++ newsC (cellsS s r.view) [r.cell]).length) :
    ASpec Tryz.prog 44 [.agg (eSt s), .agg (eRc r)] (· = .agg (eSt (applyS s r))) := by
  refine ASpec.of_awp Tryz.func44 (by kernel_rfl) rfl (by rw [Tryz.results44]) Tryz.ntmps44 ?_
  simp -implicitDefEqProofs [eRc, eSt]
  refine allocK.intro (fun b1 hb1 => ?_)
  simp -implicitDefEqProofs
  refine allocK.intro (fun b2 hb2 => ?_)
  have n12 : ¬ b1 = b2 := by rintro rfl; simp at hb2
  have n21 : ¬ b2 = b1 := fun h => n12 h.symm
  simp -implicitDefEqProofs [n12, n21]
  refine allocK.intro (fun b3 hb3 => ?_)
  have n13 : ¬ b1 = b3 := by rintro rfl; simp [n12] at hb3
  have n31 : ¬ b3 = b1 := fun h => n13 h.symm
  have n23 : ¬ b2 = b3 := by rintro rfl; simp at hb3
  have n32 : ¬ b3 = b2 := fun h => n23 h.symm
  by_cases h1 : r.kind = 1
  · simp -implicitDefEqProofs [n12, n21, n13, n31, n23, n32, h1]
    refine regionK.intro 9 follows_mixed (by kernel_rfl) ?_
    simp -implicitDefEqProofs [n12, n21, n13, n31, n23, n32]
    refine CallQ.of (x := .sl .no (eEs (bookS s r.view))) (by have := book_spec s r.view hs hv; simpa [eSt, eV] using this) (by rintro _ ⟨tag, rfl⟩; rfl) ?_
    simp -implicitDefEqProofs [n12, n21, n13, n31, n23, n32]
    refine CallQ.of (x := .sl .no (eEs (mergeE (bookS s r.view) [r.entry]))) (by have := merge_spec (bookS s r.view) [r.entry]; simpa [eEs, eE] using this) (by rintro _ ⟨tag, rfl⟩; rfl) ?_
    simp -implicitDefEqProofs [n12, n21, n13, n31, n23, n32]
    refine regionK.intro 9 follows_mixed (by kernel_rfl) ?_
    simp -implicitDefEqProofs [n12, n21, n13, n31, n23, n32]
    refine CallQ.with shelvedVB_spec rfl ?_
    simp -implicitDefEqProofs [n12, n21, n13, n31, n23, n32]
    refine CallQ.of (x := .sl .no (rowsVB (putK keyVB s.books ⟨r.view, mergeE (bookS s r.view) [r.entry]⟩))) (by have := putVB_spec s.books ⟨r.view, mergeE (bookS s r.view) [r.entry]⟩ hs.sb (by have := hs.lb; omega) hs.rb hv; simpa [rowsVB, eVB] using this) (by rintro _ ⟨tag, rfl⟩; rfl) ?_
    simp -implicitDefEqProofs [n12, n21, n13, n31, n23, n32, applyS, h1, eSt, rowsVB]
  · by_cases h2 : r.kind = 2
    · have h2' : (2 : Int) = 1 ↔ False := by decide
      simp -implicitDefEqProofs [n12, n21, n13, n31, n23, n32, h1, h2]
      refine regionK.intro 9 follows_mixed (by kernel_rfl) ?_
      simp -implicitDefEqProofs [n12, n21, n13, n31, n23, n32]
      refine CallQ.of (x := .sl .no (eCs (cellsS s r.view))) (by have := cells_spec s r.view hs hv; simpa [eSt, eV] using this) (by rintro _ ⟨tag, rfl⟩; rfl) ?_
      simp -implicitDefEqProofs [n12, n21, n13, n31, n23, n32]
      refine CallQ.of (x := .sl .no (eCs (mergeS (cellsS s r.view) [r.cell]))) (by have := cmerge_spec (cellsS s r.view) [r.cell] hc.1 hc.2 (by simp); simpa [eCs, eC] using this) (by rintro _ ⟨tag, rfl⟩; rfl) ?_
      simp -implicitDefEqProofs [n12, n21, n13, n31, n23, n32]
      refine regionK.intro 9 follows_mixed (by kernel_rfl) ?_
      simp -implicitDefEqProofs [n12, n21, n13, n31, n23, n32]
      refine CallQ.with shelvedVC_spec rfl ?_
      simp -implicitDefEqProofs [n12, n21, n13, n31, n23, n32]
      refine CallQ.of (x := .sl .no (rowsVC (putK keyVC s.cells ⟨r.view, mergeS (cellsS s r.view) [r.cell]⟩))) (by have := putVC_spec s.cells ⟨r.view, mergeS (cellsS s r.view) [r.cell]⟩ hs.sc (by have := hs.lc; omega) hs.rc hv; simpa [rowsVC, eVC] using this) (by rintro _ ⟨tag, rfl⟩; rfl) ?_
      simp -implicitDefEqProofs [n12, n21, n13, n31, n23, n32, applyS, h1, h2, eSt, rowsVC]
    · by_cases h3 : r.kind = 3
      · simp -implicitDefEqProofs [n12, n21, n13, n31, n23, n32, h1, h2, h3]
        refine CallK.with (within_spec s.held r.view hs.rh hv) (by simp [eV]) ?_
        cases hw : withinV s.held r.view
        · simp -implicitDefEqProofs [n12, n21, n13, n31, n23, n32, applyS, h1, h2, h3, hw, eSt]
        · simp -implicitDefEqProofs [n12, n21, n13, n31, n23, n32, applyS, h1, h2, h3, hw, eSt]
      · by_cases h4 : r.kind = 4
        · simp -implicitDefEqProofs [n12, n21, n13, n31, n23, n32, h1, h2, h3, h4, applyS, eSt]
          split <;> omega
        · by_cases h5 : r.kind = 5
          · simp -implicitDefEqProofs [n12, n21, n13, n31, n23, n32, h1, h2, h3, h4, h5]
            refine CallK.with (intent_spec s r.view hs hv) (by simp [eSt, eV]) ?_
            rw [intentA]
            simp -implicitDefEqProofs [n12, n21, n13, n31, n23, n32, eV]
            refine allocK.intro (fun b4 hb4 => ?_)
            have n14 : ¬ b1 = b4 := by rintro rfl; simp [n12, n13] at hb4
            have n41 : ¬ b4 = b1 := fun h => n14 h.symm
            have n24 : ¬ b2 = b4 := by rintro rfl; simp [n23] at hb4
            have n42 : ¬ b4 = b2 := fun h => n24 h.symm
            have n34 : ¬ b3 = b4 := by rintro rfl; simp at hb4
            have n43 : ¬ b4 = b3 := fun h => n34 h.symm
            cases ho : (intentS s r.view).isSome
            · simp -implicitDefEqProofs [n12, n21, n13, n31, n23, n32, n14, n41, n24, n42, n34, n43]
              refine regionK.intro 11 follows_mixed (by kernel_rfl) ?_
              simp -implicitDefEqProofs [n12, n21, n13, n31, n23, n32, n14, n41, n24, n42, n34, n43]
              refine CallQ.with shelvedVI_spec rfl ?_
              simp -implicitDefEqProofs [n12, n21, n13, n31, n23, n32, n14, n41, n24, n42, n34, n43]
              refine CallQ.of (x := .sl .no (rowsVI (putK keyVI s.intents ⟨r.view, r.cell.change⟩))) (by have := putVI_spec s.intents ⟨r.view, r.cell.change⟩ hs.si (by have := hs.li; omega) hs.ri hv; simpa [rowsVI, eVI] using this) (by rintro _ ⟨tag, rfl⟩; rfl) ?_
              simp -implicitDefEqProofs [n12, n21, n13, n31, n23, n32, n14, n41, n24, n42, n34, n43, applyS, h1, h2, h3, h4, h5, ho, eSt, rowsVI]
            · simp -implicitDefEqProofs [n12, n21, n13, n31, n23, n32, n14, n41, n24, n42, n34, n43, applyS, h1, h2, h3, h4, h5, ho, eSt]
          · by_cases h6 : r.kind = 6
            · simp -implicitDefEqProofs [n12, n21, n13, n31, n23, n32, h1, h2, h3, h4, h5, h6, applyS, eSt]
              split <;> omega
            · simp -implicitDefEqProofs [n12, n21, n13, n31, n23, n32, h1, h2, h3, h4, h5, h6, applyS, eSt]
end Go.Proofs.YtjbbfiagijjdoaaGreat

/- Plain: states that can be stay so. No condition. -/
set_option linter.unusedSimpArgs false
set_option linter.unusedVariables false
set_option maxRecDepth 10000
namespace Go.Proofs.YtjbbfiagijjdoaaGreat
open Go Go.Rw Go.Proofs

section
variable {α : Type} {key : α → Int}
theorem sort_put {l : List α} (h : sortK key l) (x : α) : sortK key (putK key l x) := by
  unfold sortK putK
  rw [List.pairwise_append, List.pairwise_cons]
  refine ⟨h.filter _, ⟨fun y hy => ?_, h.filter _⟩, fun y hy z hz => ?_⟩
  · have := (List.mem_filter.1 hy).2
    simpa using this
  · have h1 := (List.mem_filter.1 hy).2
    simp at h1
    rcases List.mem_cons.1 hz with rfl | hz
    · exact h1
    · have h2 := (List.mem_filter.1 hz).2
      simp at h2; omega
theorem mem_put {l : List α} {x y : α} (h : y ∈ putK key l x) : y = x ∨ y ∈ l := by
  unfold putK at h
  rcases List.mem_append.1 h with h | h
  · exact .inr (List.mem_filter.1 h).1
  · rcases List.mem_cons.1 h with h | h
    · exact .inl h
    · exact .inr (List.mem_filter.1 h).1
theorem put_len {l : List α} (h : sortK key l) (x : α) : (putK key l x).length ≤ l.length + 1 := by
  unfold putK
  rw [List.length_append, List.length_cons]
  have h1 : (l.filter fun y => decide (key x < key y)).length ≤ (l.filter fun y => decide (¬ key y < key x)).length := by
    rw [← List.countP_eq_length_filter, ← List.countP_eq_length_filter]
    refine List.countP_mono_left fun y _ hy => ?_
    simp at hy ⊢; omega
  obtain ⟨t1, t2⟩ := take_posK h (key x)
  rw [← t2] at h1
  have h2 : (l.filter fun y => decide (key y < key x)).length = (l.take (posK key l (key x))).length := by rw [t1]
  rw [h2, List.length_take]
  rw [List.length_drop] at h1
  have := posK_le (key := key) l (key x)
  omega
end
/-- a state behind at most n records -/
structure OkN (n : Nat) (s : PState) : Prop where
  sb : sortK keyVB s.books
  sc : sortK keyVC s.cells
  si : sortK keyVI s.intents
  rb : ∀ x ∈ s.books, rightV x.view = true
  rc : ∀ x ∈ s.cells, rightV x.view = true
  ri : ∀ x ∈ s.intents, rightV x.view = true
  rh : rightV s.held = true
  lb : s.books.length ≤ n
  lc : s.cells.length ≤ n
  li : s.intents.length ≤ n
  bl : ∀ x ∈ s.books, x.book.length ≤ 4
  cl : ∀ x ∈ s.cells, okCs x.cells
theorem OkN.ok {n : Nat} {s : PState} (h : OkN n s) (hn : n ≤ 100000) : OkS s :=
  ⟨h.sb, h.sc, h.si, h.rb, h.rc, h.ri, h.rh, by have := h.lb; omega, by have := h.lc; omega, by have := h.li; omega, fun x hx => by have := h.bl x hx; omega, fun x hx => by have := okCs_len (h.cl x hx); omega⟩
theorem okCs_nil : okCs [] := ⟨List.Pairwise.nil, fun x hx => by simp at hx⟩
theorem OkN.cells {n : Nat} {s : PState} (h : OkN n s) (v : PView) : okCs (cellsS s v) := by
  unfold cellsS
  split
  · rename_i x hx
    split
    · exact h.cl x (List.mem_of_getElem? hx)
    · exact okCs_nil
  · exact okCs_nil
theorem right_cell {r : PRec} (h : rightR r = true) : rightV r.view = true ∧ 0 ≤ r.cell.node ∧ r.cell.node < 6 := by
  simp [rightR] at h
  exact ⟨h.1.1.1.2, h.1.2.1, h.1.2.2⟩
theorem okCs_one {c : PCell} (h : 0 ≤ c.node ∧ c.node < 6) : okCs [c] := ⟨by simp, fun x hx => by simp at hx; subst hx; exact h⟩
theorem OkN.news {n : Nat} {s : PState} (h : OkN n s) {r : PRec} (hr : rightR r = true) : (cellsS s r.view ++ newsC (cellsS s r.view) [r.cell]).length ≤ 12 ∧ 0 < (cellsS s r.view ++ newsC (cellsS s r.view) [r.cell]).length := by
  refine ⟨news_len (h.cells r.view) (okCs_one (right_cell hr).2), ?_⟩
  rw [List.length_append]
  cases hc : cellsS s r.view with
  | nil => simp [newsC, ofC]
  | cons => simp only [List.length_cons]; omega
theorem OkN.mono {n m : Nat} {s : PState} (h : OkN n s) (hn : n ≤ m) : OkN m s :=
  ⟨h.sb, h.sc, h.si, h.rb, h.rc, h.ri, h.rh, by have := h.lb; omega, by have := h.lc; omega, by have := h.li; omega, h.bl, h.cl⟩
theorem okN_apply {n : Nat} {s : PState} (h : OkN n s) {r : PRec} (hr : rightR r = true) : OkN (n + 1) (applyS s r) := by
  have hv := (right_cell hr).1
  unfold applyS
  split
  · have hl := put_len h.sb ⟨r.view, mergeE (bookS s r.view) [r.entry]⟩
    refine ⟨sort_put h.sb _, h.sc, h.si, fun x hx => ?_, h.rc, h.ri, h.rh, by have := h.lb; simp only; omega, by have := h.lc; simp only; omega, by have := h.li; simp only; omega, fun x hx => ?_, h.cl⟩
    · rcases mem_put hx with rfl | hx
      · exact hv
      · exact h.rb x hx
    · rcases mem_put hx with rfl | hx
      · exact mergeK_le _ _ 4
      · exact h.bl x hx
  · split
    · have hl := put_len h.sc ⟨r.view, mergeS (cellsS s r.view) [r.cell]⟩
      refine ⟨h.sb, sort_put h.sc _, h.si, h.rb, fun x hx => ?_, h.ri, h.rh, by have := h.lb; simp only; omega, by have := h.lc; simp only; omega, by have := h.li; simp only; omega, h.bl, fun x hx => ?_⟩
      · rcases mem_put hx with rfl | hx
        · exact hv
        · exact h.rc x hx
      · rcases mem_put hx with rfl | hx
        · show okCs (mergeS (cellsS s r.view) [r.cell])
          rw [mergeS_eq (h.cells r.view) (okCs_one (right_cell hr).2)]
          exact okCs_merge _ _
        · exact h.cl x hx
    · split
      · split
        · exact ⟨h.sb, h.sc, h.si, h.rb, h.rc, h.ri, hv, by have := h.lb; simp only; omega, by have := h.lc; simp only; omega, by have := h.li; simp only; omega, h.bl, h.cl⟩
        · exact h.mono (by omega)
      · split
        · exact ⟨h.sb, h.sc, h.si, h.rb, h.rc, h.ri, h.rh, by have := h.lb; simp only; omega, by have := h.lc; simp only; omega, by have := h.li; simp only; omega, h.bl, h.cl⟩
        · split
          · split
            · exact h.mono (by omega)
            · have hl := put_len h.si ⟨r.view, r.cell.change⟩
              refine ⟨h.sb, h.sc, sort_put h.si _, h.rb, h.rc, fun x hx => ?_, h.rh, by have := h.lb; simp only; omega, by have := h.lc; simp only; omega, by have := h.li; simp only; omega, h.bl, h.cl⟩
              rcases mem_put hx with rfl | hx
              · exact hv
              · exact h.ri x hx
          · split
            · exact ⟨h.sb, h.sc, h.si, h.rb, h.rc, h.ri, h.rh, by have := h.lb; simp only; omega, by have := h.lc; simp only; omega, by have := h.li; simp only; omega, h.bl, h.cl⟩
            · exact h.mono (by omega)
/-- the state behind records -/
def newS (v : PView) : PState := ⟨[], [], [], v, 0, 0⟩
def foldS (v : PView) (l : List PRec) : PState := l.foldl applyS (newS v)
theorem okN_new {v : PView} (h : rightV v = true) : OkN 0 (newS v) :=
  ⟨List.Pairwise.nil, List.Pairwise.nil, List.Pairwise.nil, fun x hx => by simp [newS] at hx, fun x hx => by simp [newS] at hx, fun x hx => by simp [newS] at hx, h, Nat.le_refl _, Nat.le_refl _, Nat.le_refl _, fun x hx => by simp [newS] at hx, fun x hx => by simp [newS] at hx⟩
theorem foldS_step {v : PView} {l : List PRec} {k : Nat} {r : PRec} (h : l[k]? = some r) : foldS v (l.take (k + 1)) = applyS (foldS v (l.take k)) r := by
  unfold foldS
  rw [List.take_add_one, h, List.foldl_append]; rfl
theorem okN_fold {v : PView} (hv : rightV v = true) {l : List PRec} (hl : ∀ r ∈ l, rightR r = true) (k : Nat) (hk : k ≤ l.length) : OkN k (foldS v (l.take k)) := by
  induction k with
  | zero => simpa [foldS] using okN_new hv
  | succ k ih =>
    have hx : l[k]? = some l[k] := List.getElem?_eq_getElem (by omega)
    rw [foldS_step hx]
    exact okN_apply (ih (by omega)) (hl _ (List.mem_of_getElem? hx))
end Go.Proofs.YtjbbfiagijjdoaaGreat

/- Plain: what a state tells behind a record. No condition. -/
set_option linter.unusedSimpArgs false
set_option linter.unusedVariables false
set_option maxRecDepth 10000
namespace Go.Proofs.YtjbbfiagijjdoaaGreat
open Go Go.Rw Go.Proofs

section
variable {α : Type} {key : α → Int}
/-- what stands behind a name -/
def lookK (key : α → Int) (l : List α) (n : Int) : Option α := l.find? fun x => decide (key x = n)
theorem look_none {l : List α} {n : Int} : lookK key l n = none ↔ ∀ x ∈ l, ¬ key x = n := by
  unfold lookK; simp
theorem look_some {l : List α} {n : Int} {x : α} (h : lookK key l n = some x) : x ∈ l ∧ key x = n :=
  ⟨List.mem_of_find?_eq_some h, by simpa using List.find?_some h⟩
theorem key_inj {l : List α} (hl : sortK key l) {x y : α} (hx : x ∈ l) (hy : y ∈ l) (h : key x = key y) : x = y := by
  unfold sortK at hl
  induction l with
  | nil => simp at hx
  | cons z l ih =>
    rw [List.pairwise_cons] at hl
    rcases List.mem_cons.1 hx with hx1 | hx1
    · rcases List.mem_cons.1 hy with hy1 | hy1
      · rw [hx1, hy1]
      · have := hl.1 y hy1; rw [hx1] at h; omega
    · rcases List.mem_cons.1 hy with hy1 | hy1
      · have := hl.1 x hx1; rw [hy1] at h; omega
      · exact ih hl.2 hx1 hy1
theorem look_mem {l : List α} (hl : sortK key l) {x : α} : x ∈ l ↔ lookK key l (key x) = some x := by
  constructor
  · intro hx
    cases h : lookK key l (key x) with
    | none => exact absurd rfl (look_none.1 h x hx)
    | some y =>
      obtain ⟨h1, h2⟩ := look_some h
      rw [key_inj hl h1 hx h2]
  · exact fun h => (look_some h).1
theorem look_put (l : List α) (x : α) (n : Int) : lookK key (putK key l x) n = if key x = n then some x else lookK key l n := by
  unfold lookK putK
  rw [List.find?_append, List.find?_cons, List.find?_filter, List.find?_filter]
  by_cases h : key x = n
  · have e : l.find? (fun y => decide (decide (key y < key x) = true ∧ decide (key y = n) = true)) = none := List.find?_eq_none.2 fun y _ => by simp; omega
    rw [if_pos h, e]
    simp [h]
  · rw [if_neg h]
    rcases Int.lt_or_gt_of_ne h with h1 | h1
    · have e1 : l.find? (fun y => decide (decide (key y < key x) = true ∧ decide (key y = n) = true)) = none := List.find?_eq_none.2 fun y _ => by simp; omega
      have e2 : (fun y => decide (decide (key x < key y) = true ∧ decide (key y = n) = true)) = fun y => decide (key y = n) := by funext y; by_cases h2 : key y = n <;> simp [h2]; omega
      rw [e1, e2]
      simp [h]
    · have e1 : l.find? (fun y => decide (decide (key x < key y) = true ∧ decide (key y = n) = true)) = none := List.find?_eq_none.2 fun y _ => by simp; omega
      have e2 : (fun y => decide (decide (key y < key x) = true ∧ decide (key y = n) = true)) = fun y => decide (key y = n) := by funext y; by_cases h2 : key y = n <;> simp [h2]; omega
      rw [e1, e2]
      simp [h]
theorem nodupK {l : List α} (hl : sortK key l) : l.Nodup := hl.imp fun h => by rintro rfl; omega
/-- two sorted lists that tell the same are the same -/
theorem sort_ext {l m : List α} (hl : sortK key l) (hm : sortK key m) (h : ∀ n, lookK key l n = lookK key m n) : l = m := by
  have hp : l.Perm m := (List.perm_ext_iff_of_nodup (nodupK hl) (nodupK hm)).2 fun x => by rw [look_mem hl, look_mem hm, h]
  refine List.Perm.eq_of_pairwise (le := fun x y => key x ≤ key y) (fun x y hx hy h1 h2 => ?_) (hl.imp fun h => by omega) (hm.imp fun h => by omega) hp
  exact key_inj hl hx ((hp.mem_iff).2 hy) (by omega)
end
theorem name_inj {v w : PView} (hv : rightV v = true) (hw : rightV w = true) (h : nameV v = nameV w) : v = w := by
  rw [← viewN_name hv, ← viewN_name hw, h]
theorem bookS_look {s : PState} (h : sortK keyVB s.books) (v : PView) : bookS s v = ((lookK keyVB s.books (nameV v)).map (·.book)).getD [] := by
  unfold bookS
  rcases hasK_at h (nameV v) with ⟨x, hx, hk, hh⟩ | ⟨_, hh⟩
  · rw [hx, hh, ← hk, (look_mem h).1 (List.mem_of_getElem? hx)]
    simp
  · have e : lookK keyVB s.books (nameV v) = none := look_none.2 fun x hx hk => by
      have : hasK keyVB s.books (nameV v) = true := by rw [hasK, List.any_eq_true]; exact ⟨x, hx, by simpa using hk⟩
      rw [hh] at this; simp at this
    rw [e, hh]
    split <;> simp
theorem cellsS_look {s : PState} (h : sortK keyVC s.cells) (v : PView) : cellsS s v = ((lookK keyVC s.cells (nameV v)).map (·.cells)).getD [] := by
  unfold cellsS
  rcases hasK_at h (nameV v) with ⟨x, hx, hk, hh⟩ | ⟨_, hh⟩
  · rw [hx, hh, ← hk, (look_mem h).1 (List.mem_of_getElem? hx)]
    simp
  · have e : lookK keyVC s.cells (nameV v) = none := look_none.2 fun x hx hk => by
      have : hasK keyVC s.cells (nameV v) = true := by rw [hasK, List.any_eq_true]; exact ⟨x, hx, by simpa using hk⟩
      rw [hh] at this; simp at this
    rw [e, hh]
    split <;> simp
theorem intentS_look {s : PState} (h : sortK keyVI s.intents) (v : PView) : intentS s v = (lookK keyVI s.intents (nameV v)).map (·.change) := by
  unfold intentS
  rcases hasK_at h (nameV v) with ⟨x, hx, hk, hh⟩ | ⟨_, hh⟩
  · rw [hx, hh, ← hk, (look_mem h).1 (List.mem_of_getElem? hx)]
    simp
  · have e : lookK keyVI s.intents (nameV v) = none := look_none.2 fun x hx hk => by
      have : hasK keyVI s.intents (nameV v) = true := by rw [hasK, List.any_eq_true]; exact ⟨x, hx, by simpa using hk⟩
      rw [hh] at this; simp at this
    rw [e, hh]
    split <;> simp
/-! ### behind a record -/
theorem apply_books (s : PState) (r : PRec) (n : Int) : lookK keyVB (applyS s r).books n = if r.kind = 1 ∧ nameV r.view = n then some ⟨r.view, mergeE (bookS s r.view) [r.entry]⟩ else lookK keyVB s.books n := by
  unfold applyS
  by_cases h1 : r.kind = 1
  · simp only [h1, if_true, true_and]
    rw [look_put]
    rfl
  · have : ¬ (r.kind = 1 ∧ nameV r.view = n) := fun h => h1 h.1
    rw [if_neg this]
    simp only [h1, if_false]
    repeat' split
    all_goals rfl
theorem apply_cells (s : PState) (r : PRec) (n : Int) : lookK keyVC (applyS s r).cells n = if r.kind = 2 ∧ nameV r.view = n then some ⟨r.view, mergeS (cellsS s r.view) [r.cell]⟩ else lookK keyVC s.cells n := by
  unfold applyS
  by_cases h1 : r.kind = 2
  · have h2 : ¬ r.kind = 1 := by omega
    simp only [h1, h2, if_true, true_and, if_false]
    rw [if_neg (by omega), look_put]
    rfl
  · have : ¬ (r.kind = 2 ∧ nameV r.view = n) := fun h => h1 h.1
    rw [if_neg this]
    simp only [h1, if_false]
    repeat' split
    all_goals rfl
theorem apply_intents (s : PState) (r : PRec) (n : Int) : lookK keyVI (applyS s r).intents n = if r.kind = 5 ∧ (intentS s r.view).isSome = false ∧ nameV r.view = n then some ⟨r.view, r.cell.change⟩ else lookK keyVI s.intents n := by
  unfold applyS
  by_cases h1 : r.kind = 5
  · have h2 : ¬ r.kind = 1 := by omega
    have h3 : ¬ r.kind = 2 := by omega
    have h4 : ¬ r.kind = 3 := by omega
    have h5 : ¬ r.kind = 4 := by omega
    rw [if_neg h2, if_neg h3, if_neg h4, if_neg h5, if_pos h1]
    cases ho : (intentS s r.view).isSome
    · simp only [h1, true_and, Bool.false_eq_true, if_false]
      rw [look_put]
      rfl
    · simp
  · have : ¬ (r.kind = 5 ∧ (intentS s r.view).isSome = false ∧ nameV r.view = n) := fun h => h1 h.1
    rw [if_neg this]
    simp only [h1, if_false]
    repeat' split
    all_goals rfl
theorem apply_held (s : PState) (r : PRec) : (applyS s r).held = if r.kind = 3 ∧ withinV s.held r.view = true then r.view else s.held := by
  unfold applyS
  by_cases h1 : r.kind = 3
  · rw [if_neg (by omega), if_neg (by omega), if_pos h1]
    by_cases h2 : withinV s.held r.view = true
    · rw [if_pos h2, if_pos ⟨h1, h2⟩]
    · rw [if_neg h2, if_neg (fun h => h2 h.2)]
  · have : ¬ (r.kind = 3 ∧ withinV s.held r.view = true) := fun h => h1 h.1
    rw [if_neg this]
    simp only [h1, if_false]
    repeat' split
    all_goals rfl
theorem apply_last (s : PState) (r : PRec) : (applyS s r).last = if r.kind = 4 then max s.last r.n else s.last := by
  unfold applyS
  by_cases h1 : r.kind = 4
  · rw [if_neg (by omega), if_neg (by omega), if_neg (by omega), if_pos h1, if_pos h1]
  · rw [if_neg h1]
    simp only [h1, if_false]
    repeat' split
    all_goals rfl
theorem apply_inc (s : PState) (r : PRec) : (applyS s r).inc = if r.kind = 6 then max s.inc r.n else s.inc := by
  unfold applyS
  by_cases h1 : r.kind = 6
  · rw [if_neg (by omega), if_neg (by omega), if_neg (by omega), if_neg (by omega), if_neg (by omega), if_pos h1, if_pos h1]
  · rw [if_neg h1]
    simp only [h1, if_false]
    repeat' split
    all_goals rfl
theorem bookS_apply {n : Nat} {s : PState} (h : OkN n s) {r : PRec} (hr : rightR r = true) {v : PView} (hv : rightV v = true) : bookS (applyS s r) v = if r.kind = 1 ∧ r.view = v then mergeE (bookS s v) [r.entry] else bookS s v := by
  rw [bookS_look (okN_apply h hr).sb, apply_books, bookS_look h.sb v]
  by_cases h1 : r.kind = 1 ∧ r.view = v
  · obtain ⟨h1, rfl⟩ := h1
    rw [if_pos ⟨h1, rfl⟩, if_pos ⟨h1, rfl⟩, bookS_look h.sb]
    rfl
  · rw [if_neg h1, if_neg (fun h2 => h1 ⟨h2.1, name_inj (right_cell hr).1 hv h2.2⟩)]
theorem cellsS_apply {n : Nat} {s : PState} (h : OkN n s) {r : PRec} (hr : rightR r = true) {v : PView} (hv : rightV v = true) : cellsS (applyS s r) v = if r.kind = 2 ∧ r.view = v then mergeC (cellsS s v) [r.cell] else cellsS s v := by
  rw [cellsS_look (okN_apply h hr).sc, apply_cells, cellsS_look h.sc v]
  by_cases h1 : r.kind = 2 ∧ r.view = v
  · obtain ⟨h1, rfl⟩ := h1
    rw [if_pos ⟨h1, rfl⟩, if_pos ⟨h1, rfl⟩, mergeS_eq (h.cells r.view) (okCs_one (right_cell hr).2), cellsS_look h.sc]
    rfl
  · rw [if_neg h1, if_neg (fun h2 => h1 ⟨h2.1, name_inj (right_cell hr).1 hv h2.2⟩)]
theorem intentS_apply {n : Nat} {s : PState} (h : OkN n s) {r : PRec} (hr : rightR r = true) {v : PView} (hv : rightV v = true) : intentS (applyS s r) v = if r.kind = 5 ∧ r.view = v ∧ intentS s v = none then some r.cell.change else intentS s v := by
  rw [intentS_look (okN_apply h hr).si, apply_intents]
  by_cases h1 : r.kind = 5 ∧ r.view = v ∧ intentS s v = none
  · obtain ⟨h1, rfl, h2⟩ := h1
    rw [if_pos ⟨h1, by rw [h2]; rfl, rfl⟩, if_pos ⟨h1, rfl, h2⟩]
    rfl
  · rw [if_neg h1, if_neg, intentS_look h.si]
    rintro ⟨h2, h3, h4⟩
    have h5 := name_inj (right_cell hr).1 hv h4
    exact h1 ⟨h2, h5, by rw [h5] at h3; simpa using h3⟩
end Go.Proofs.YtjbbfiagijjdoaaGreat

/- Plain laws: records there and back. No condition. -/
set_option linter.unusedSimpArgs false
set_option linter.unusedVariables false
namespace Go.Proofs.YtjbbfiagijjdoaaGreat
open Go Go.Rw Go.Proofs

theorem bitsF_zero : bitsF 0 = 0 := by decide
theorem bitsF_is_zero {b : Nat} (h : bitsF b = 0) : b = 0 := by
  unfold bitsF cleanB at h
  split at h
  · simp at h
  · exact h
theorem sameE_iff (x y : PEntry) : sameE x y = true ↔ x.key = y.key ∧ x.tag = y.tag ∧ bitsF x.value = bitsF y.value := by
  simp [sameE, and_assoc]
theorem sameR_iff (a b : PRec) : sameR a b = true ↔ a.kind = b.kind ∧ a.view = b.view ∧ a.cell = b.cell ∧ a.n = b.n ∧ sameE a.entry b.entry = true := by
  obtain ⟨k, ⟨v1, v2⟩, ⟨c, ⟨c1, c2⟩⟩, e, n⟩ := a
  obtain ⟨k', ⟨v1', v2'⟩, ⟨c', ⟨c1', c2'⟩⟩, e', n'⟩ := b
  simp [sameR, and_assoc]
theorem sameE_zero (x : PEntry) : sameE x zE = true ↔ x = zE := by
  obtain ⟨k, ⟨t1, t2⟩, v⟩ := x
  simp only [sameE_iff, zE, PEntry.mk.injEq, PTag.mk.injEq, bitsF_zero]
  constructor
  · rintro ⟨h1, h2, h3⟩; exact ⟨h1, h2, bitsF_is_zero h3⟩
  · rintro ⟨h1, h2, rfl⟩; exact ⟨h1, h2, bitsF_zero⟩
/-- its value's bits in one form -/
def cleanR (r : PRec) : PRec := { r with entry := cleanE bitsF r.entry }
inductive RightR (r : PRec) : Prop
  | value (v : PView) (e : PEntry) (h : r = ⟨1, v, zC, e, 0⟩) (hv : rightV v = true) (h1 : 0 ≤ e.key) (h2 : e.key < 4) (h3 : rightT e.tag = true) (h4 : e.tag.num ≠ 0)
  | cell (v : PView) (c : PCell) (h : r = ⟨2, v, c, zE, 0⟩) (hv : rightV v = true) (h1 : 0 ≤ c.node) (h2 : c.node < 6) (h3 : rightV c.change = true) (h4 : 0 < sizeV c.change)
  | mark (v : PView) (h : r = ⟨3, v, zC, zE, 0⟩) (hv : rightV v = true)
  | num (k n : Int) (h : r = ⟨k, zV, zC, zE, n⟩) (hk : k = 4 ∨ k = 6) (h1 : 1 ≤ n) (h2 : n ≤ 1000000)
  | intent (v u : PView) (h : r = ⟨5, v, ⟨0, u⟩, zE, 0⟩) (hv : rightV v = true) (hu : rightV u = true) (h4 : 0 < sizeV u)
theorem rightR_of {r : PRec} (h : rightR r = true) : RightR r := by
  obtain ⟨k, v, ⟨cn, cc⟩, e, n⟩ := r
  simp only [rightR, Bool.and_eq_true, decide_eq_true_eq, sameR_iff] at h
  obtain ⟨⟨⟨⟨⟨hk, hs⟩, hv⟩, hc⟩, hn⟩, hx⟩ := h
  by_cases k1 : k = 1
  · subst k1
    simp only [bareR, if_true, true_and] at hs hx
    obtain ⟨hs1, hs2, _⟩ := hs
    have := okE_of (show okE (-1) e = true by simpa [checkE] using hx)
    exact .value v e (by rw [hs1, hs2]) hv (by omega) this.2.1 this.2.2.1 this.2.2.2
  by_cases k2 : k = 2
  · subst k2
    simp [bareR, sameE_zero] at hs hx
    obtain ⟨rfl, rfl⟩ := hs
    exact .cell v _ rfl hv hn.1 hn.2 hc hx
  by_cases k5 : k = 5
  · subst k5
    simp [bareR, sameE_zero] at hs hx
    obtain ⟨rfl, rfl, rfl⟩ := hs
    exact .intent v _ rfl hv hc hx
  by_cases k3 : k = 3
  · subst k3
    simp [bareR, sameE_zero] at hs hx
    obtain ⟨hs1, rfl, rfl⟩ := hs
    exact .mark v (by rw [hs1]) hv
  have k46 : k = 4 ∨ k = 6 := by omega
  have hb : bareR ⟨k, v, ⟨cn, cc⟩, e, n⟩ = ⟨k, zV, zC, zE, n⟩ := by unfold bareR; simp [k1, k2, k3, k5, k46]
  rw [hb] at hs
  simp [sameE_zero] at hs
  obtain ⟨rfl, hs1, rfl⟩ := hs
  simp [k1, k2, k5, k46] at hx
  exact .num k n (by rw [hs1]) k46 hx.1 hx.2
theorem rightV_zero : rightV zV = true := by decide
theorem rightV_zero' : rightV ⟨0, 0⟩ = true := by decide
theorem rightR_to {r : PRec} (h : RightR r) : rightR r = true := by
  cases h with
  | value v e h hv h1 h2 h3 h4 =>
    subst h
    have he : okE (-1) e = true := okE_5 _ _ (by omega) (by omega) h3 h4
    have hz : sizeV ⟨0, 0⟩ = sizeV ⟨0, 0⟩ := rfl
    simp [rightR, sameR_iff, bareR, sameE_iff, hv, checkE, he, zC, rightV_zero']
  | cell v c h hv h1 h2 h3 h4 => subst h; simp [rightR, sameR_iff, bareR, sameE_iff, hv, h1, h2, h3, h4]
  | mark v h hv => subst h; simp [rightR, sameR_iff, bareR, sameE_iff, hv, zC, rightV_zero']
  | num k n h hk h1 h2 =>
    subst h
    rcases hk with rfl | rfl <;> simp [rightR, sameR_iff, bareR, sameE_iff, zV, zC, rightV_zero', h1, h2]
  | intent v u h hv hu h4 => subst h; simp [rightR, sameR_iff, bareR, sameE_iff, hv, hu, h4]
end Go.Proofs.YtjbbfiagijjdoaaGreat

/- Plain: books and cells grow; states whose books and cells can be. No condition. -/
set_option linter.unusedSimpArgs false
set_option linter.unusedVariables false
set_option maxRecDepth 10000
namespace Go.Proofs.YtjbbfiagijjdoaaGreat
open Go Go.Rw Go.Proofs

/-! ### tags -/
theorem lessT_iff (a b : PTag) : lessT a b = true ↔ a.num < b.num ∨ (a.num = b.num ∧ a.node < b.node) := by
  rw [lessT_eq]
  by_cases h : a.num = b.num
  · simp [h]
  · simp [h]
theorem lessT_no (a b : PTag) : lessT a b = false ↔ ¬ (a.num < b.num ∨ (a.num = b.num ∧ a.node < b.node)) := by
  rw [← lessT_iff]; simp
theorem lessT_trans {a b c : PTag} (h1 : lessT b a = false) (h2 : lessT c b = false) : lessT c a = false := by
  rw [lessT_no] at *; omega
theorem lessT_asym {a b : PTag} (h : lessT a b = true) : lessT b a = false := by
  rw [lessT_iff] at h; rw [lessT_no]; omega
theorem newer_left (x y : PEntry) : lessT (newerE x y).tag x.tag = false := by
  unfold newerE
  cases h : lessT x.tag y.tag
  · simp [lessT_self]
  · simp [lessT_asym h]
theorem newer_rightT (x y : PEntry) : lessT (newerE x y).tag y.tag = false := by
  unfold newerE
  cases h : lessT x.tag y.tag
  · simp [h]
  · simp [lessT_self]
/-! ### books -/
def keyE (x : PEntry) : Int := x.key
/-- a book that can be -/
def okB (b : List PEntry) : Prop := sortK keyE b ∧ ∀ x ∈ b, 0 ≤ x.key ∧ x.key < 4 ∧ rightT x.tag = true ∧ 0 < x.tag.num
theorem checkE_iff : ∀ (b : List PEntry) (last : Int), checkE last b = true ↔ sortK keyE b ∧ ∀ x ∈ b, last < x.key ∧ x.key < 4 ∧ rightT x.tag = true ∧ ¬ x.tag.num = 0
  | [], last => by simp [checkE, sortK]
  | y :: b, last => by
    rw [checkE, Bool.and_eq_true, checkE_iff b y.key]
    unfold sortK
    rw [List.pairwise_cons]
    constructor
    · rintro ⟨h1, h2, h3⟩
      have h4 := okE_of h1
      refine ⟨⟨fun x hx => (h3 x hx).1, h2⟩, fun x hx => ?_⟩
      rcases List.mem_cons.1 hx with rfl | hx
      · exact h4
      · have := h3 x hx; exact ⟨by have := h4.1; omega, this.2⟩
    · rintro ⟨⟨h1, h2⟩, h3⟩
      have h4 := h3 y (by simp)
      exact ⟨okE_5 _ _ (by omega) (by omega) h4.2.2.1 h4.2.2.2, h2, fun x hx => ⟨h1 x hx, (h3 x (by simp [hx])).2⟩⟩
theorem rightT_num {t : PTag} (h : rightT t = true) : 0 ≤ t.num := by simp [rightT] at h; exact h.1.1
theorem okB_iff (b : List PEntry) : checkE (-1) b = true ↔ okB b := by
  rw [checkE_iff]
  unfold okB
  refine and_congr Iff.rfl ⟨fun h x hx => ?_, fun h x hx => ?_⟩
  · obtain ⟨h1, h2, h3, h4⟩ := h x hx
    have := rightT_num h3
    exact ⟨by omega, h2, h3, by omega⟩
  · obtain ⟨h1, h2, h3, h4⟩ := h x hx
    exact ⟨by omega, h2, h3, by omega⟩
theorem okB_nil : okB [] := ⟨List.Pairwise.nil, fun x hx => by simp at hx⟩
theorem findE_look (b : List PEntry) (k : Int) : findE b k = (lookK keyE b k).getD ⟨k, ⟨0, 0⟩, 0⟩ := rfl
theorem findE_key (b : List PEntry) (k : Int) : (findE b k).key = k := by
  rw [findE_look]
  cases h : lookK keyE b k with
  | none => rfl
  | some x => exact (look_some h).2
theorem newer_key {x y : PEntry} {k : Int} (hx : x.key = k) (hy : y.key = k) : (newerE x y).key = k := by unfold newerE; split <;> assumption
theorem mergeE1_mem {a b : List PEntry} {k : Int} {x : PEntry} : x ∈ mergeE1 a b k ↔ x.key = k ∧ x = newerE (findE a k) (findE b k) ∧ 0 < x.tag.num := by
  unfold mergeE1
  have hk := newer_key (findE_key a k) (findE_key b k)
  generalize newerE (findE a k) (findE b k) = e at *
  by_cases h : 0 < e.tag.num
  · rw [if_pos h, List.mem_singleton]
    constructor
    · rintro rfl; exact ⟨hk, rfl, h⟩
    · exact fun h => h.2.1
  · rw [if_neg h]
    constructor
    · intro h1; simp at h1
    · rintro ⟨_, rfl, h2⟩; exact absurd h2 h
theorem mergeK_mem {a b : List PEntry} {m : Nat} {x : PEntry} : x ∈ mergeK a b m ↔ (0 ≤ x.key ∧ x.key < m) ∧ x = newerE (findE a x.key) (findE b x.key) ∧ 0 < x.tag.num := by
  induction m with
  | zero => simp [mergeK]; omega
  | succ k ih =>
    rw [mergeK, List.mem_append, ih, mergeE1_mem]
    constructor
    · rintro (⟨⟨h1, h2⟩, h3⟩ | ⟨h1, h2, h3⟩)
      · exact ⟨⟨h1, by omega⟩, h3⟩
      · exact ⟨⟨by omega, by omega⟩, by rw [h1]; exact h2, h3⟩
    · rintro ⟨⟨h1, h2⟩, h3, h4⟩
      by_cases h : x.key < k
      · exact .inl ⟨⟨h1, h⟩, h3, h4⟩
      · have e : x.key = (k : Int) := by omega
        exact .inr ⟨e, by rw [← e]; exact h3, h4⟩
theorem mergeK_sorted (a b : List PEntry) (m : Nat) : sortK keyE (mergeK a b m) := by
  unfold sortK
  induction m with
  | zero => simp [mergeK]
  | succ k ih =>
    rw [mergeK, List.pairwise_append]
    refine ⟨ih, ?_, fun x hx y hy => ?_⟩
    · have := mergeE1_le a b k
      match h : mergeE1 a b k with
      | [] => simp
      | [_] => simp
      | _ :: _ :: _ => rw [h] at this; simp at this
    · have h1 := (mergeK_mem.1 hx).1
      have h2 := (mergeE1_mem.1 hy).1
      unfold keyE
      omega
theorem okB_merge {a b : List PEntry} (ha : ∀ x ∈ a, rightT x.tag = true) (hb : ∀ x ∈ b, rightT x.tag = true) : okB (mergeE a b) := by
  refine ⟨mergeK_sorted a b 4, fun x hx => ?_⟩
  obtain ⟨⟨h1, h2⟩, h3, h4⟩ := mergeK_mem.1 hx
  refine ⟨h1, h2, ?_, h4⟩
  rw [h3]
  exact newer_right (findE_right ha) (findE_right hb)
theorem okB.right {b : List PEntry} (h : okB b) : ∀ x ∈ b, rightT x.tag = true := fun x hx => (h.2 x hx).2.2.1
theorem findE_ok {b : List PEntry} (h : okB b) (k : Int) : findE b k = ⟨k, ⟨0, 0⟩, 0⟩ ∨ (0 ≤ k ∧ k < 4 ∧ 0 < (findE b k).tag.num ∧ lookK keyE b k = some (findE b k)) := by
  rw [findE_look]
  cases e : lookK keyE b k with
  | none => exact .inl rfl
  | some x =>
    obtain ⟨h1, h2⟩ := look_some e
    obtain ⟨h3, h4, _, h5⟩ := h.2 x h1
    unfold keyE at h2
    exact .inr ⟨by omega, by omega, h5, rfl⟩
theorem findE_merge {a b : List PEntry} (ha : okB a) (hb : okB b) (k : Int) : findE (mergeE a b) k = newerE (findE a k) (findE b k) := by
  have hk := newer_key (findE_key a k) (findE_key b k)
  have hn : newerE (findE a k) (findE b k) = ⟨k, ⟨0, 0⟩, 0⟩ ∨ (0 ≤ k ∧ k < 4 ∧ 0 < (newerE (findE a k) (findE b k)).tag.num) := by
    unfold newerE
    split
    · rcases findE_ok hb k with h | ⟨h1, h2, h3, _⟩
      · exact .inl h
      · exact .inr ⟨h1, h2, h3⟩
    · rcases findE_ok ha k with h | ⟨h1, h2, h3, _⟩
      · exact .inl h
      · exact .inr ⟨h1, h2, h3⟩
  rcases hn with h | ⟨h1, h2, h3⟩
  · rw [h, findE_look, look_none.2]
    · rfl
    · intro x hx hxk
      obtain ⟨_, h4, h5⟩ := mergeK_mem.1 hx
      unfold keyE at hxk
      rw [hxk] at h4
      rw [h4, h] at h5
      simp at h5
  · have hm : newerE (findE a k) (findE b k) ∈ mergeE a b := mergeK_mem.2 ⟨by rw [hk]; exact ⟨h1, by omega⟩, by rw [hk], h3⟩
    have := (look_mem (mergeK_sorted a b 4)).1 hm
    rw [show keyE (newerE (findE a k) (findE b k)) = k from hk] at this
    rw [findE_look, mergeE, this]
    rfl
theorem book_ext {a b : List PEntry} (ha : okB a) (hb : okB b) (h : ∀ k, findE a k = findE b k) : a = b := by
  refine sort_ext ha.1 hb.1 fun k => ?_
  have h1 := h k
  rcases findE_ok ha k with e1 | ⟨_, _, e2, e3⟩
  · have e4 : (findE b k).tag.num = 0 := by rw [← h1, e1]
    have n1 : lookK keyE a k = none := by
      cases e : lookK keyE a k with
      | none => rfl
      | some x =>
        have : findE a k = x := by rw [findE_look, e]; rfl
        have h5 := (ha.2 x (look_some e).1).2.2.2
        rw [← this, e1] at h5; simp at h5
    have n2 : lookK keyE b k = none := by
      cases e : lookK keyE b k with
      | none => rfl
      | some x =>
        have : findE b k = x := by rw [findE_look, e]; rfl
        have h5 := (hb.2 x (look_some e).1).2.2.2
        rw [← this] at h5; omega
    rw [n1, n2]
  · rcases findE_ok hb k with f1 | ⟨_, _, f2, f3⟩
    · rw [h1, f1] at e2; simp at e2
    · rw [e3, f3, h1]
theorem findE_one (e : PEntry) (k : Int) : findE [e] k = if e.key = k then e else ⟨k, ⟨0, 0⟩, 0⟩ := by
  unfold findE
  by_cases h : e.key = k
  · simp [h]
  · simp [h]
/-! ### cells -/
theorem ofC_merge {a b : List PCell} (ha : okCs a) (hb : okCs b) (n : Int) : ofC (mergeC a b) n = if (ofC a n).isSome then ofC a n else ofC b n := by
  have hm := okCs_merge a b
  cases h : ofC (mergeC a b) n with
  | some v =>
    obtain ⟨_, h2 | ⟨h2, h3⟩⟩ := mergeCK_mem.1 (ofC_some h)
    · simp only at h2; rw [h2]; simp
    · simp only at h2 h3; rw [h2, h3]; simp
  | none =>
    cases h1 : ofC a n with
    | some v =>
      have hin := ha.2 _ (ofC_some h1)
      exact absurd rfl (ofC_none.1 h ⟨n, v⟩ (mergeCK_mem.2 ⟨hin, .inl h1⟩))
    | none =>
      cases h2 : ofC b n with
      | some v =>
        have hin := hb.2 _ (ofC_some h2)
        exact absurd rfl (ofC_none.1 h ⟨n, v⟩ (mergeCK_mem.2 ⟨hin, .inr ⟨h1, h2⟩⟩))
      | none => simp
theorem cells_ext {a b : List PCell} (ha : okCs a) (hb : okCs b) (h : ∀ n, ofC a n = ofC b n) : a = b := by
  have hp : a.Perm b := (List.perm_ext_iff_of_nodup (nodup_of ha.1) (nodup_of hb.1)).2 fun x => by rw [ofC_mem ha.1, ofC_mem hb.1, h]
  refine List.Perm.eq_of_pairwise (le := fun x y => x.node ≤ y.node) (fun x y hx hy h1 h2 => ?_) (ha.1.imp fun h => by omega) (hb.1.imp fun h => by omega) hp
  exact node_inj ha.1 hx ((hp.mem_iff).2 hy) (by omega)
theorem ofC_one (c : PCell) (n : Int) : ofC [c] n = if c.node = n then some c.change else none := by
  unfold ofC
  by_cases h : c.node = n
  · simp [h]
  · simp [h]
/-- cells whose changes can be -/
def okCh (l : List PCell) : Prop := okCs l ∧ ∀ c ∈ l, rightV c.change = true ∧ ¬ sizeV c.change = 0
theorem checkC_iff : ∀ (b : List PCell) (last : Int), checkC last b = true ↔ b.Pairwise (fun x y => x.node < y.node) ∧ ∀ x ∈ b, last < x.node ∧ x.node < 6 ∧ rightV x.change = true ∧ ¬ sizeV x.change = 0
  | [], last => by simp [checkC]
  | y :: b, last => by
    rw [checkC, Bool.and_eq_true, checkC_iff b y.node, List.pairwise_cons]
    constructor
    · rintro ⟨h1, h2, h3⟩
      have h4 : last < y.node ∧ y.node < 6 ∧ rightV y.change = true ∧ ¬ sizeV y.change = 0 := by simpa [okC, and_assoc] using h1
      refine ⟨⟨fun x hx => (h3 x hx).1, h2⟩, fun x hx => ?_⟩
      rcases List.mem_cons.1 hx with rfl | hx
      · exact h4
      · have := h3 x hx; exact ⟨by have := h4.1; omega, this.2⟩
    · rintro ⟨⟨h1, h2⟩, h3⟩
      have h4 := h3 y (by simp)
      exact ⟨by simpa [okC, and_assoc] using h4, h2, fun x hx => ⟨h1 x hx, (h3 x (by simp [hx])).2⟩⟩
theorem okCh_iff (b : List PCell) : checkC (-1) b = true ↔ okCh b := by
  rw [checkC_iff]
  unfold okCh okCs
  constructor
  · rintro ⟨h1, h2⟩
    exact ⟨⟨h1, fun x hx => by have := h2 x hx; omega⟩, fun x hx => (h2 x hx).2.2⟩
  · rintro ⟨⟨h1, h2⟩, h3⟩
    exact ⟨h1, fun x hx => by have := h2 x hx; exact ⟨by omega, by omega, h3 x hx⟩⟩
theorem okCh_merge {a b : List PCell} (ha : okCh a) (hb : okCh b) : okCh (mergeC a b) := by
  refine ⟨okCs_merge a b, fun c hc => ?_⟩
  obtain ⟨_, h | ⟨_, h⟩⟩ := mergeCK_mem.1 hc
  · exact ha.2 _ (ofC_some h)
  · exact hb.2 _ (ofC_some h)
/-! ### states -/
/-- a state whose books and cells can be -/
structure OkT (n : Nat) (s : PState) : Prop extends OkN n s where
  bk : ∀ x ∈ s.books, okB x.book
  ck : ∀ x ∈ s.cells, okCh x.cells
theorem OkT.bookOk {n : Nat} {s : PState} (h : OkT n s) (v : PView) : okB (bookS s v) := by
  rw [bookS_look h.sb]
  cases e : lookK keyVB s.books (nameV v) with
  | none => exact okB_nil
  | some x => exact h.bk x (look_some e).1
theorem OkT.cellsOk {n : Nat} {s : PState} (h : OkT n s) (v : PView) : okCh (cellsS s v) := by
  rw [cellsS_look h.sc]
  cases e : lookK keyVC s.cells (nameV v) with
  | none => exact ⟨okCs_nil, fun x hx => by simp at hx⟩
  | some x => exact h.ck x (look_some e).1
theorem RightR.entry {r : PRec} (h : RightR r) (hk : r.kind = 1) : okB [r.entry] := by
  cases h with
  | value v e h hv h1 h2 h3 h4 =>
    subst h
    refine ⟨by simp [sortK], fun x hx => ?_⟩
    simp at hx; subst hx
    have := rightT_num h3
    exact ⟨h1, h2, h3, by omega⟩
  | cell v c h => subst h; simp at hk
  | mark v h => subst h; simp at hk
  | num k n h hk' => subst h; simp only at hk; omega
  | intent v u h => subst h; simp at hk
theorem RightR.ccell {r : PRec} (h : RightR r) (hk : r.kind = 2) : okCh [r.cell] := by
  cases h with
  | value v e h => subst h; simp at hk
  | cell v c h hv h1 h2 h3 h4 =>
    subst h
    refine ⟨okCs_one ⟨h1, h2⟩, fun x hx => ?_⟩
    simp at hx; subst hx
    exact ⟨h3, by omega⟩
  | mark v h => subst h; simp at hk
  | num k n h hk' => subst h; simp only at hk; omega
  | intent v u h => subst h; simp at hk
theorem okT_apply {n : Nat} {s : PState} (h : OkT n s) {r : PRec} (hr : rightR r = true) : OkT (n + 1) (applyS s r) := by
  have hn := okN_apply h.toOkN hr
  refine ⟨hn, fun x hx => ?_, fun x hx => ?_⟩
  · rw [look_mem hn.sb, apply_books] at hx
    split at hx
    · rename_i hk
      obtain rfl := Option.some.inj hx
      exact okB_merge (h.bookOk r.view).right ((rightR_of hr).entry hk.1).right
    · exact h.bk x (look_some hx).1
  · rw [look_mem hn.sc, apply_cells] at hx
    split at hx
    · rename_i hk
      obtain rfl := Option.some.inj hx
      show okCh (mergeS _ _)
      rw [mergeS_eq (h.cells r.view) (okCs_one (right_cell hr).2)]
      exact okCh_merge (h.cellsOk r.view) ((rightR_of hr).ccell hk.1)
    · exact h.ck x (look_some hx).1
theorem okT_new {v : PView} (h : rightV v = true) : OkT 0 (newS v) := ⟨okN_new h, fun x hx => by simp [newS] at hx, fun x hx => by simp [newS] at hx⟩
theorem okT_fold {v : PView} (hv : rightV v = true) {l : List PRec} (hl : ∀ r ∈ l, rightR r = true) (k : Nat) (hk : k ≤ l.length) : OkT k (foldS v (l.take k)) := by
  induction k with
  | zero => simpa [foldS] using okT_new hv
  | succ k ih =>
    have hx : l[k]? = some l[k] := List.getElem?_eq_getElem (by omega)
    rw [foldS_step hx]
    exact okT_apply (ih (by omega)) (hl _ (List.mem_of_getElem? hx))
theorem OkT.mono {n m : Nat} {s : PState} (h : OkT n s) (hn : n ≤ m) : OkT m s := ⟨h.toOkN.mono hn, h.bk, h.ck⟩
theorem okT_list : ∀ {l : List PRec} {n : Nat} {s : PState}, OkT n s → (∀ r ∈ l, rightR r = true) → OkT (n + l.length) (l.foldl applyS s)
  | [], n, s, h, _ => by simpa using h
  | r :: l, n, s, h, hl => by
    have := okT_list (okT_apply h (hl r (by simp))) (fun x hx => hl x (by simp [hx])) (l := l)
    rw [List.foldl_cons, List.length_cons]
    exact this.mono (by omega)
/-- no book is less -/
theorem bookS_grows {n : Nat} {s : PState} (h : OkT n s) {r : PRec} (hr : rightR r = true) {v : PView} (hv : rightV v = true) (k : Int) : lessT (findE (bookS (applyS s r) v) k).tag (findE (bookS s v) k).tag = false := by
  rw [bookS_apply h.toOkN hr hv]
  split
  · rename_i hk
    rw [findE_merge (h.bookOk v) ((rightR_of hr).entry hk.1)]
    exact newer_left _ _
  · exact lessT_self _
theorem cellsS_grows {n : Nat} {s : PState} (h : OkT n s) {r : PRec} (hr : rightR r = true) {v : PView} (hv : rightV v = true) {k : Int} {u : PView} (hu : ofC (cellsS s v) k = some u) : ofC (cellsS (applyS s r) v) k = some u := by
  rw [cellsS_apply h.toOkN hr hv]
  split
  · rename_i hk
    rw [ofC_merge (h.cellsOk v).1 ((rightR_of hr).ccell hk.1).1, hu]
    simp
  · exact hu
end Go.Proofs.YtjbbfiagijjdoaaGreat

/- Plain: what a node answers, and what is there behind it. No condition. -/
set_option linter.unusedSimpArgs false
set_option linter.unusedVariables false
set_option maxRecDepth 10000
namespace Go.Proofs.YtjbbfiagijjdoaaGreat
open Go Go.Rw Go.Proofs

/-- the answer's head -/
def ansM (me : Int) (q : PMsg) : PMsg := ⟨7, me, q.frm, q.inc, q.seq, q.view, [], []⟩
def servable (me : Int) (q : PMsg) : Bool := decide (q.to = me) && decide (0 ≤ q.kind ∧ q.kind ≤ 4)
def recC (v : PView) (c : PCell) : PRec := ⟨2, v, c, zE, 0⟩
def recE (v : PView) (x : PEntry) : PRec := ⟨1, v, zC, x, 0⟩
def recV (v : PView) : PRec := ⟨3, v, zC, zE, 0⟩
/-- what is to be written -/
def wroteS (s : PState) (q : PMsg) : List PRec :=
  if q.kind = 1 then (newsC (cellsS s q.view) q.cells).map (recC q.view)
  else if q.kind = 3 then (newsE (bookS s q.view) q.book).map (recE q.view)
  else if q.kind = 4 then (if ¬ s.held = q.view ∧ withinV s.held q.view = true then [recV q.view] else [])
  else []
/-- what is answered -/
def tellS (me : Int) (s : PState) (q : PMsg) : PMsg :=
  if q.kind = 0 then { ansM me q with kind := 5, cells := cellsS s q.view }
  else if q.kind = 2 then { ansM me q with kind := 6, book := bookS s q.view }
  else ansM me q
def recsS (me : Int) (s : PState) (q : PMsg) : List PRec := if servable me q = true then wroteS s q else []
def answerS (me : Int) (s : PState) (q : PMsg) : PMsg := if servable me q = true then tellS me s q else zM

theorem samesE (l : List PEntry) : sameEs l l = true := by
  induction l with
  | nil => rfl
  | cons x l ih => simp [sameEs, sameE, ih]
theorem samesM (m : PMsg) : sameM m m = true := by simp [sameM, headM, samesE]
theorem withinV_self (v : PView) : withinV v v = true := by
  have h : ∀ x : Int, andN x x = 0 := fun x => by
    unfold andN setN
    simp
  simp [withinV, minusV, h]
section
variable {q : PMsg}
theorem RightQ.cells (h : rightM q = true) : okCh q.cells := by
  simp only [rightM, Bool.and_eq_true, betweenB, decide_eq_true_eq] at h
  exact (okCh_iff _).1 h.1.2
theorem RightQ.book (h : rightM q = true) : okB q.book := by
  simp only [rightM, Bool.and_eq_true, betweenB, decide_eq_true_eq] at h
  exact (okB_iff _).1 h.2
theorem RightQ.noCells (h : rightM q = true) (h1 : ¬ q.kind = 1) (h2 : ¬ q.kind = 5) : q.cells = [] := by
  simp only [rightM, Bool.and_eq_true, betweenB, decide_eq_true_eq, Bool.or_eq_true] at h
  have := h.1.1.1.1.2
  simp [h1, h2] at this
  exact this
theorem RightQ.noBook (h : rightM q = true) (h1 : ¬ q.kind = 3) (h2 : ¬ q.kind = 6) : q.book = [] := by
  simp only [rightM, Bool.and_eq_true, betweenB, decide_eq_true_eq, Bool.or_eq_true] at h
  have := h.1.1.1.2
  simp [h1, h2] at this
  exact this
end
theorem sizeV_ge (v : PView) : 0 ≤ sizeV v := by
  have e : sizeV v = (popN 64 v.add.toNat : Int) + popN 64 v.del.toNat := by unfold sizeV; rfl
  rw [e]; omega
/-- what is written can be -/
theorem wrote_right {s : PState} {q : PMsg} (h : rightM q = true) : ∀ r ∈ wroteS s q, rightR r = true := by
  intro r hr
  have hv := (rightM_of h).view
  unfold wroteS at hr
  split at hr
  · obtain ⟨c, hc, rfl⟩ := List.mem_map.1 hr
    have hm := (List.mem_filter.1 hc).1
    have h1 := (RightQ.cells h).1.2 c hm
    have h2 := (RightQ.cells h).2 c hm
    exact rightR_to (.cell q.view c rfl hv h1.1 h1.2 h2.1 (by have := sizeV_ge c.change; omega))
  · split at hr
    · obtain ⟨x, hx, rfl⟩ := List.mem_map.1 hr
      have hm := (List.mem_filter.1 hx).1
      obtain ⟨h1, h2, h3, h4⟩ := (RightQ.book h).2 x hm
      exact rightR_to (.value q.view x rfl hv h1 h2 h3 (by omega))
    · split at hr
      · split at hr
        · simp at hr; subst hr
          exact rightR_to (.mark q.view rfl hv)
        · simp at hr
      · simp at hr
theorem wrote_len (s : PState) (q : PMsg) : (wroteS s q).length ≤ q.cells.length + q.book.length + 1 := by
  have h1 : (newsC (cellsS s q.view) q.cells).length ≤ q.cells.length := List.length_filter_le _ _
  have h2 : (newsE (bookS s q.view) q.book).length ≤ q.book.length := List.length_filter_le _ _
  unfold wroteS
  repeat' split
  all_goals simp
  all_goals omega
/-- the answer can be -/
theorem tell_right {n : Nat} {me : Int} {s : PState} {q : PMsg} (hs : OkT n s) (h : rightM q = true) (hm : servable me q = true) : rightM (tellS me s q) = true := by
  have R := rightM_of h
  have e1 : me = q.to := by unfold servable at hm; simp at hm; exact hm.1.symm
  subst e1
  have hb := (okB_iff _).2 (hs.bookOk q.view)
  have hc := (okCh_iff _).2 (hs.cellsOk q.view)
  have h1 := R.frm; have h2 := R.to; have h3 := R.inc; have h4 := R.seq; have h5 := R.view
  unfold tellS ansM
  by_cases k0 : q.kind = 0
  · simp [k0, rightM, betweenB, h1, h2, h3, h4, h5, hc, checkE]
  · by_cases k2 : q.kind = 2
    · simp [k2, rightM, betweenB, h1, h2, h3, h4, h5, hb, checkC]
    · simp [k0, k2, rightM, betweenB, h1, h2, h3, h4, h5, checkC, checkE]
theorem tell_answers {me : Int} {s : PState} {q : PMsg} (hm : servable me q = true) : answersM q (tellS me s q) = true := by
  unfold servable at hm
  simp at hm
  obtain ⟨h1, h2, h3⟩ := hm
  unfold tellS ansM answersM kindN
  by_cases k0 : q.kind = 0
  · simp [k0, h1]
  · by_cases k2 : q.kind = 2
    · simp [k2, h1]
    · simp [k0, k2, h1, h2, h3]
      try omega
/-! ### behind what was written -/
theorem list_grows {v : PView} (hv : rightV v = true) : ∀ {l : List PRec} {n : Nat} {s : PState}, OkT n s → (∀ r ∈ l, rightR r = true) → (∀ k, lessT (findE (bookS (l.foldl applyS s) v) k).tag (findE (bookS s v) k).tag = false) ∧ (∀ k u, ofC (cellsS s v) k = some u → ofC (cellsS (l.foldl applyS s) v) k = some u)
  | [], n, s, h, _ => ⟨fun k => lessT_self _, fun k u hu => hu⟩
  | r :: l, n, s, h, hl => by
    have hr := hl r (by simp)
    obtain ⟨i1, i2⟩ := list_grows hv (okT_apply h hr) (fun x hx => hl x (by simp [hx])) (l := l)
    rw [List.foldl_cons]
    exact ⟨fun k => lessT_trans (bookS_grows h hr hv k) (i1 k), fun k u hu => i2 k u (cellsS_grows h hr hv hu)⟩
theorem list_has {v : PView} (hv : rightV v = true) : ∀ {l : List PRec} {n : Nat} {s : PState}, OkT n s → (∀ r ∈ l, rightR r = true) → ∀ r ∈ l, r.view = v → (r.kind = 1 → lessT (findE (bookS (l.foldl applyS s) v) r.entry.key).tag r.entry.tag = false) ∧ (r.kind = 2 → (ofC (cellsS (l.foldl applyS s) v) r.cell.node).isSome = true)
  | [], n, s, h, _ => fun r hr => by simp at hr
  | r :: l, n, s, h, hl => by
    have hr := hl r (by simp)
    have hrest : ∀ x ∈ l, rightR x = true := fun x hx => hl x (by simp [hx])
    have hs1 := okT_apply h hr
    intro y hy hyv
    rw [List.foldl_cons]
    rcases List.mem_cons.1 hy with rfl | hy
    · obtain ⟨i1, i2⟩ := list_grows hv hs1 hrest
      refine ⟨fun hk => ?_, fun hk => ?_⟩
      · refine lessT_trans ?_ (i1 _)
        rw [bookS_apply h.toOkN hr hv, if_pos ⟨hk, hyv⟩, findE_merge (h.bookOk v) ((rightR_of hr).entry hk), findE_one, if_pos rfl]
        exact newer_rightT _ _
      · cases ho : ofC (cellsS (applyS s y) v) y.cell.node with
        | some u => rw [i2 _ _ ho]; rfl
        | none =>
          rw [cellsS_apply h.toOkN hr hv, if_pos ⟨hk, hyv⟩, ofC_merge (h.cellsOk v).1 ((rightR_of hr).ccell hk).1, ofC_one, if_pos rfl] at ho
          split at ho
          · rename_i h1; rw [ho] at h1; simp at h1
          · simp at ho
    · exact list_has hv hs1 hrest y hy hyv
/-- what is not written stays -/
theorem list_stays {v : PView} (hv : rightV v = true) : ∀ {l : List PRec} {n : Nat} {s : PState}, OkT n s → (∀ r ∈ l, rightR r = true) → (∀ r ∈ l, ¬ r.view = v) → bookS (l.foldl applyS s) v = bookS s v ∧ cellsS (l.foldl applyS s) v = cellsS s v
  | [], n, s, h, _, _ => ⟨rfl, rfl⟩
  | r :: l, n, s, h, hl, hn => by
    have hr := hl r (by simp)
    have h1 := hn r (by simp)
    obtain ⟨i1, i2⟩ := list_stays hv (okT_apply h hr) (fun x hx => hl x (by simp [hx])) (fun x hx => hn x (by simp [hx])) (l := l)
    rw [List.foldl_cons, i1, i2, bookS_apply h.toOkN hr hv, cellsS_apply h.toOkN hr hv, if_neg (fun h => h1 h.2), if_neg (fun h => h1 h.2)]
    exact ⟨rfl, rfl⟩
theorem list_nums : ∀ {l : List PRec} {s : PState}, (∀ r ∈ l, r.kind ≤ 3) → (l.foldl applyS s).inc = s.inc ∧ (l.foldl applyS s).last = s.last
  | [], s, _ => ⟨rfl, rfl⟩
  | r :: l, s, hl => by
    have h1 := hl r (by simp)
    obtain ⟨i1, i2⟩ := list_nums (fun x hx => hl x (by simp [hx])) (l := l) (s := applyS s r)
    rw [List.foldl_cons, i1, i2, apply_inc, apply_last, if_neg (by omega), if_neg (by omega)]
    exact ⟨rfl, rfl⟩
theorem list_held : ∀ {l : List PRec} {s : PState}, (∀ r ∈ l, ¬ r.kind = 3) → (l.foldl applyS s).held = s.held
  | [], s, _ => rfl
  | r :: l, s, hl => by
    have h1 := hl r (by simp)
    rw [List.foldl_cons, list_held (fun x hx => hl x (by simp [hx])), apply_held, if_neg (fun h => h1 h.1)]
theorem wrote_kind (s : PState) (q : PMsg) : ∀ r ∈ wroteS s q, r.view = q.view ∧ r.kind ≤ 3 ∧ (r.kind = 3 → q.kind = 4) := by
  intro r hr
  unfold wroteS at hr
  split at hr
  · obtain ⟨c, hc, rfl⟩ := List.mem_map.1 hr
    exact ⟨rfl, by simp [recC], by simp [recC]⟩
  · split at hr
    · obtain ⟨c, hc, rfl⟩ := List.mem_map.1 hr
      exact ⟨rfl, by simp [recE], by simp [recE]⟩
    · split at hr
      · rename_i h4
        split at hr
        · simp at hr; subst hr
          exact ⟨rfl, by simp [recV], fun _ => h4⟩
        · simp at hr
      · simp at hr
/-- the state behind what was written -/
def behindS (s : PState) (q : PMsg) : PState := (wroteS s q).foldl applyS s
section
variable {n : Nat} {s : PState} {q : PMsg}
theorem behind_ok (hs : OkT n s) (h : rightM q = true) : OkT (n + 11) (behindS s q) := by
  have h1 := okT_list hs (wrote_right (s := s) h)
  have h2 := wrote_len s q
  have h3 := (rightM_of h).clen
  have h4 := (rightM_of h).blen
  exact h1.mono (by omega)
theorem behind_book (hs : OkT n s) (h : rightM q = true) (h6 : ¬ q.kind = 6) : newsE (bookS (behindS s q) q.view) q.book = [] := by
  have hv := (rightM_of h).view
  by_cases h3 : q.kind = 3
  · unfold newsE
    rw [List.filter_eq_nil_iff]
    intro x hx
    have hw : wroteS s q = (newsE (bookS s q.view) q.book).map (recE q.view) := by
      unfold wroteS; rw [if_neg (by omega), if_pos h3]
    cases hn : lessT (findE (bookS s q.view) x.key).tag x.tag
    · have := lessT_trans hn ((list_grows hv hs (wrote_right (s := s) h)).1 x.key)
      rw [behindS, this]; simp
    · have hm : recE q.view x ∈ wroteS s q := by
        rw [hw]; exact List.mem_map.2 ⟨x, List.mem_filter.2 ⟨hx, hn⟩, rfl⟩
      have := (list_has hv hs (wrote_right (s := s) h) _ hm rfl).1 rfl
      rw [behindS, show (findE (bookS ((wroteS s q).foldl applyS s) q.view) x.key) = (findE (bookS ((wroteS s q).foldl applyS s) q.view) (recE q.view x).entry.key) from rfl, show x.tag = (recE q.view x).entry.tag from rfl, this]; simp
  · rw [RightQ.noBook h h3 h6]; rfl
theorem behind_cells (hs : OkT n s) (h : rightM q = true) (h5 : ¬ q.kind = 5) : newsC (cellsS (behindS s q) q.view) q.cells = [] := by
  have hv := (rightM_of h).view
  by_cases h3 : q.kind = 1
  · unfold newsC
    rw [List.filter_eq_nil_iff]
    intro x hx
    have hw : wroteS s q = (newsC (cellsS s q.view) q.cells).map (recC q.view) := by
      unfold wroteS; rw [if_pos h3]
    cases hn : ofC (cellsS s q.view) x.node with
    | some u =>
      have := (list_grows hv hs (wrote_right (s := s) h)).2 x.node u hn
      rw [behindS, this]; simp
    | none =>
      have hm : recC q.view x ∈ wroteS s q := by
        rw [hw]; exact List.mem_map.2 ⟨x, List.mem_filter.2 ⟨hx, by rw [hn]; rfl⟩, rfl⟩
      have := (list_has hv hs (wrote_right (s := s) h) _ hm rfl).2 rfl
      rw [show (recC q.view x).cell.node = x.node from rfl] at this
      rw [behindS, this]; simp
  · rw [RightQ.noCells h h3 h5]; rfl
theorem behind_nums : (behindS s q).inc = s.inc ∧ (behindS s q).last = s.last := list_nums fun r hr => (wrote_kind s q r hr).2.1
theorem behind_held : (behindS s q).held = if q.kind = 4 ∧ withinV s.held q.view = true then q.view else s.held := by
  by_cases h4 : q.kind = 4
  · have hw : wroteS s q = if ¬ s.held = q.view ∧ withinV s.held q.view = true then [recV q.view] else [] := by
      unfold wroteS; rw [if_neg (by omega), if_neg (by omega), if_pos h4]
    unfold behindS
    rw [hw]
    by_cases h5 : withinV s.held q.view = true
    · have e1 : (if q.kind = 4 ∧ withinV s.held q.view = true then q.view else s.held) = q.view := if_pos ⟨h4, h5⟩
      rw [e1]
      by_cases h6 : s.held = q.view
      · have e2 : (if ¬ s.held = q.view ∧ withinV s.held q.view = true then [recV q.view] else []) = [] := if_neg (fun h => h.1 h6)
        rw [e2]; exact h6
      · have e2 : (if ¬ s.held = q.view ∧ withinV s.held q.view = true then [recV q.view] else []) = [recV q.view] := if_pos ⟨h6, h5⟩
        rw [e2]
        show (applyS s (recV q.view)).held = q.view
        rw [apply_held]
        exact if_pos ⟨rfl, h5⟩
    · have e1 : (if q.kind = 4 ∧ withinV s.held q.view = true then q.view else s.held) = s.held := if_neg (fun h => h5 h.2)
      have e2 : (if ¬ s.held = q.view ∧ withinV s.held q.view = true then [recV q.view] else []) = [] := if_neg (fun h => h5 h.2)
      rw [e1, e2]; rfl
  · rw [if_neg (fun h => h4 h.1)]
    exact list_held fun r hr hk => h4 ((wrote_kind s q r hr).2.2 hk)
theorem behind_within : withinV s.held (behindS s q).held = true := by
  rw [behind_held]
  split
  · rename_i h; exact h.2
  · exact withinV_self _
/-- asked again nothing more is written -/
theorem behind_quiet (hs : OkT n s) (h : rightM q = true) (hk : q.kind ≤ 4) : wroteS (behindS s q) q = [] := by
  have h1 := behind_cells hs h (by omega)
  have h2 := behind_book hs h (by omega)
  have h3 := behind_held (s := s) (q := q)
  generalize behindS s q = t at *
  unfold wroteS
  rw [h1, h2]
  split
  · rfl
  · split
    · rfl
    · split
      · rename_i h4
        rw [if_neg]
        rintro ⟨h5, h6⟩
        by_cases h7 : withinV s.held q.view = true
        · rw [if_pos ⟨h4, h7⟩] at h3; exact h5 h3
        · rw [if_neg (fun h => h7 h.2)] at h3; rw [h3] at h6; exact h7 h6
      · rfl
theorem behind_mark (h4 : q.kind = 4) (h : withinV (behindS s q).held q.view = true) : (behindS s q).held = q.view := by
  have h3 := behind_held (s := s) (q := q)
  by_cases h7 : withinV s.held q.view = true
  · rw [h3, if_pos ⟨h4, h7⟩]
  · rw [if_neg (fun h => h7 h.2)] at h3
    rw [h3] at h
    exact absurd h h7
theorem behind_other (hs : OkT n s) (h : rightM q = true) {v : PView} (hv : rightV v = true) (hn : ¬ v = q.view) : bookS (behindS s q) v = bookS s v ∧ cellsS (behindS s q) v = cellsS s v :=
  list_stays hv hs (wrote_right (s := s) h) fun r hr e => hn (by rw [← e, (wrote_kind s q r hr).1])
end
end Go.Proofs.YtjbbfiagijjdoaaGreat

/- Contracts: what a node answers. No condition. -/
set_option linter.unusedSimpArgs false
set_option linter.unusedVariables false
set_option maxRecDepth 10000
namespace Go.Proofs.YtjbbfiagijjdoaaGreat
open Go Go.Rw Go.Proofs
-- a goal is never to be run by the elaborator
attribute [local irreducible] awp aops aop aopsE aeff

def eMq (t1 t2 : Tag) (m : PMsg) : List AV := [eI m.kind, eI m.frm, eI m.to, eI m.inc, eI m.seq, eI m.view.add, eI m.view.del, .sl t1 (eCs m.cells), .sl t2 (eEs m.book)]
/-- what a node answers, as a caller has it -/
def serveA (me : Int) (s : PState) (q : PMsg) : AV := .tup [.sl .no (eRs (recsS me s q)), .agg (eM (answerS me s q)), .v (.bool (servable me q))]
def ServeR (me : Int) (s : PState) (q : PMsg) (r : AV) : Prop := r = serveA me s q
theorem servable_no {me : Int} {q : PMsg} (h : ¬ (q.to = me ∧ 0 ≤ q.kind ∧ q.kind ≤ 4)) : servable me q = false := by
  unfold servable
  rw [Bool.and_eq_false_iff, decide_eq_false_iff_not, decide_eq_false_iff_not]
  by_cases h1 : q.to = me
  · exact .inr fun h2 => h ⟨h1, h2⟩
  · exact .inl h1
theorem ServeR.no {me : Int} {s : PState} {q : PMsg} (h : ¬ (q.to = me ∧ 0 ≤ q.kind ∧ q.kind ≤ 4)) : ServeR me s q (.tup [.sl .no [], .agg [eI 0, eI 0, eI 0, eI 0, eI 0, eI 0, eI 0, .sl .no [], .sl .no []], .v (.bool false)]) := by
  unfold ServeR
  rw [serveA, recsS, answerS, servable_no h]
  rfl
theorem ServeR.yes {me : Int} {s : PState} {q : PMsg} (h : q.to = me) (h1 : 0 ≤ q.kind) (h2 : q.kind ≤ 4) {r : AV} (hr : r = .tup [.sl .no (eRs (wroteS s q)), .agg (eM (tellS me s q)), .v (.bool true)]) : ServeR me s q r := by
  have e : servable me q = true := by simp [servable, h, h1, h2]
  unfold ServeR
  rw [serveA, recsS, answerS, e]
  exact hr
def SvM (me : Int) (s : PState) (q : PMsg) (b3 b4 : Nat) (t : Nat → AV) (h : Nat → Option (List AV)) : Prop := ∃ tag : Tag, t 7 = .ptr b3 0 ∧ t 10 = .ptr b4 0 ∧ t 9 = .sl tag (eRs (wroteS s q)) ∧ (∃ z, h b3 = some z ∧ z.length = 9) ∧ h b4 = some (eMq .nil .nil (ansM me q))
def SvC (me : Int) (s : PState) (q : PMsg) (l : List PCell) (b2 b3 b4 : Nat) (t : Nat → AV) (h : Nat → Option (List AV)) : Prop := ∃ (k : Nat) (tag : Tag), t 5 = .ptr b2 0 ∧ t 7 = .ptr b3 0 ∧ t 10 = .ptr b4 0 ∧ t 9 = .sl tag (eRs ((l.take k).map (recC q.view))) ∧ appOK tag 66 11 ∧ t 57 = .sl .no (eCs l) ∧ t 58 = eI l.length ∧ t 59 = eI k ∧ k ≤ l.length ∧ h b2 = some (eM q) ∧ (∃ z, h b3 = some z ∧ z.length = 9) ∧ h b4 = some (eMq .nil .nil (ansM me q))
def SvE (me : Int) (s : PState) (q : PMsg) (l : List PEntry) (b2 b3 b4 : Nat) (t : Nat → AV) (h : Nat → Option (List AV)) : Prop := ∃ (k : Nat) (tag : Tag), t 5 = .ptr b2 0 ∧ t 7 = .ptr b3 0 ∧ t 10 = .ptr b4 0 ∧ t 9 = .sl tag (eRs ((l.take k).map (recE q.view))) ∧ appOK tag 66 11 ∧ t 79 = .sl .no (eEs l) ∧ t 80 = eI l.length ∧ t 81 = eI k ∧ k ≤ l.length ∧ h b2 = some (eM q) ∧ (∃ z, h b3 = some z ∧ z.length = 9) ∧ h b4 = some (eMq .nil .nil (ansM me q))
theorem serve_spec (me : Int) (s : PState) (q : PMsg) (hs : OkS s) (hv : rightV q.view = true) (hl1 : q.cells.length ≤ 1000000) (hl2 : q.book.length ≤ 1000000) : ASpec Tryz.prog 22 [eI me, .agg (eSt s), .agg (eM q)] (· = serveA me s q) := by
  show ASpec Tryz.prog 22 [eI me, .agg (eSt s), .agg (eM q)] (ServeR me s q)
  refine ASpec.of_awp Tryz.func22 (by kernel_rfl) rfl (by rw [Tryz.results22]) Tryz.ntmps22 ?_
  simp -implicitDefEqProofs [eM, eSt]
  refine allocK.intro (fun b1 hb1 => ?_)
  simp -implicitDefEqProofs
  refine allocK.intro (fun b2 hb2 => ?_)
  have n12 : ¬ b1 = b2 := by rintro rfl; simp at hb2
  have n21 : ¬ b2 = b1 := fun h => n12 h.symm
  simp -implicitDefEqProofs [n12, n21]
  refine allocK.intro (fun b3 hb3 => ?_)
  have n13 : ¬ b1 = b3 := by rintro rfl; simp [n12] at hb3
  have n31 : ¬ b3 = b1 := fun h => n13 h.symm
  have n23 : ¬ b2 = b3 := by rintro rfl; simp at hb3
  have n32 : ¬ b3 = b2 := fun h => n23 h.symm
  by_cases h1 : q.to = me
  · simp -implicitDefEqProofs [n12, n21, n13, n31, n23, n32, h1]
    refine allocK.intro (fun b4 hb4 => ?_)
    have n14 : ¬ b1 = b4 := by rintro rfl; simp [n12, n13] at hb4
    have n41 : ¬ b4 = b1 := fun h => n14 h.symm
    have n24 : ¬ b2 = b4 := by rintro rfl; simp [n23] at hb4
    have n42 : ¬ b4 = b2 := fun h => n24 h.symm
    have n34 : ¬ b3 = b4 := by rintro rfl; simp at hb4
    have n43 : ¬ b4 = b3 := fun h => n34 h.symm
    by_cases k0 : q.kind = 0
    · simp -implicitDefEqProofs [n12, n21, n13, n31, n23, n32, n14, n41, n24, n42, n34, n43, k0]
      refine CallK.via (cells_spec s q.view hs hv) (by simp [eSt, eV]) ?_
      rintro _ ⟨tag, rfl⟩
      simp -implicitDefEqProofs [n12, n21, n13, n31, n23, n32, n14, n41, n24, n42, n34, n43]
      refine regionK.intro 3 follows_mixed (by kernel_rfl) ?_
      simp -implicitDefEqProofs [n12, n21, n13, n31, n23, n32, n14, n41, n24, n42, n34, n43]
      refine ServeR.yes h1 (by omega) (by omega) ?_
      simp [wroteS, tellS, ansM, eM, k0, h1]
    by_cases k2 : q.kind = 2
    · simp -implicitDefEqProofs [n12, n21, n13, n31, n23, n32, n14, n41, n24, n42, n34, n43, k0, k2]
      refine CallK.via (book_spec s q.view hs hv) (by simp [eSt, eV]) ?_
      rintro _ ⟨tag, rfl⟩
      simp -implicitDefEqProofs [n12, n21, n13, n31, n23, n32, n14, n41, n24, n42, n34, n43]
      refine regionK.intro 3 follows_mixed (by kernel_rfl) ?_
      simp -implicitDefEqProofs [n12, n21, n13, n31, n23, n32, n14, n41, n24, n42, n34, n43]
      refine ServeR.yes h1 (by omega) (by omega) ?_
      simp [wroteS, tellS, ansM, eM, k0, k2, h1]
    by_cases k1 : q.kind = 1
    · simp -implicitDefEqProofs [n12, n21, n13, n31, n23, n32, n14, n41, n24, n42, n34, n43, k0, k2, k1]
      refine regionK.intro 9 follows_mixed (by kernel_rfl) ?_
      simp -implicitDefEqProofs [n12, n21, n13, n31, n23, n32, n14, n41, n24, n42, n34, n43]
      refine CallQ.of (x := .sl .no (eCs (cellsS s q.view))) (by have := cells_spec s q.view hs hv; simpa [eSt, eV] using this) (by rintro _ ⟨tag, rfl⟩; rfl) ?_
      simp -implicitDefEqProofs [n12, n21, n13, n31, n23, n32, n14, n41, n24, n42, n34, n43]
      refine CallQ.of (x := .sl .no (eCs (newsC (cellsS s q.view) q.cells))) (by have := newsC_spec (cellsS s q.view) q.cells (by omega); simpa using this) (by rintro _ ⟨tag, rfl⟩; rfl) ?_
      simp -implicitDefEqProofs [n12, n21, n13, n31, n23, n32, n14, n41, n24, n42, n34, n43]
      generalize hl : newsC (cellsS s q.view) q.cells = l at *
      have hll : l.length ≤ 1000000 := by rw [← hl]; exact Nat.le_trans (List.length_filter_le _ _) (by omega)
      refine loopK.intro (SvC me s q l b2 b3 b4) (fun t => l.length - natOf (t 59)) ?_ ?_
      · exact ⟨0, .nil, by simp, by simp, by simp, by simp, by simp, by simp, by simp, by simp, by omega, by simp [n12, n21, n13, n31, n23, n32, n14, n41, n24, n42, n34, n43, eM, k1, h1], ⟨_, by simp [n12, n21, n13, n31, n23, n32, n14, n41, n24, n42, n34, n43]; rfl, rfl⟩, by simp [n12, n21, n13, n31, n23, n32, n14, n41, n24, n42, n34, n43, eMq, ansM, k1, h1]⟩
      · rintro t hh ⟨k, tag, g5, g7, g10, g9, gt, g57, g58, g59, hk, e2, ⟨z, e3, hz⟩, e4⟩
        by_cases hlt : k < l.length
        · have hlt' : (k : Int) < (l.length : Int) := by omega
          have hw : IntKind.i64.wrap ((k : Int) + 1) = ((k + 1 : Nat) : Int) := by rw [w64 (by omega) (by omega)]; omega
          obtain ⟨x, hx⟩ : ∃ x, l[k]? = some x := ⟨l[k], by simp [hlt]⟩
          have hs1 : (l.take (k + 1)).map (recC q.view) = (l.take k).map (recC q.view) ++ [recC q.view x] := by
            rw [List.take_add_one, hx, List.map_append]; rfl
          simp -implicitDefEqProofs [g57, g58, g59, hlt', hx, eC]
          refine allocK.intro (fun b5 hb5 => ?_)
          have n25 : ¬ b2 = b5 := by rintro rfl; rw [e2] at hb5; simp at hb5
          have n52 : ¬ b5 = b2 := fun h => n25 h.symm
          have n35 : ¬ b3 = b5 := by rintro rfl; rw [e3] at hb5; simp at hb5
          have n53 : ¬ b5 = b3 := fun h => n35 h.symm
          have n45 : ¬ b4 = b5 := by rintro rfl; rw [e4] at hb5; simp at hb5
          have n54 : ¬ b5 = b4 := fun h => n45 h.symm
          rw [eM] at e2
          simp -implicitDefEqProofs [g5, g9, e2, e3, e4, gt, g59, hw, n25, n52, n35, n53, n45, n54]
          refine ⟨by omega, ⟨k + 1, appTag tag 66 11 [eRc (recC q.view x)], by simp [g5], by simp [g7], by simp [g10], ?_, by simp [gt], by simp [g57], by simp [g58], by simp, by omega, by simp [n25, n52, e2, eM], ⟨z, by simp [n35, n53, e3], hz⟩, by simp [n45, n54, e4]⟩, by omega⟩
          rw [hs1]
          simp [eRs, eRc, recC, zC, zE]
        · have hlt' : ¬ (k : Int) < (l.length : Int) := by omega
          rw [List.take_of_length_le (by omega)] at g9
          rw [eMq] at e4
          simp -implicitDefEqProofs [g58, g59, hlt']
          refine regionK.intro 3 follows_mixed (by kernel_rfl) ?_
          simp -implicitDefEqProofs [g9, g7, g10, e3, e4, hz, n34, n43]
          refine ServeR.yes h1 (by omega) (by omega) ?_
          simp [wroteS, tellS, ansM, eM, k0, k2, k1, h1, hl]
    by_cases k3 : q.kind = 3
    · simp -implicitDefEqProofs [n12, n21, n13, n31, n23, n32, n14, n41, n24, n42, n34, n43, k0, k2, k1, k3]
      refine regionK.intro 9 follows_mixed (by kernel_rfl) ?_
      simp -implicitDefEqProofs [n12, n21, n13, n31, n23, n32, n14, n41, n24, n42, n34, n43]
      refine CallQ.of (x := .sl .no (eEs (bookS s q.view))) (by have := book_spec s q.view hs hv; simpa [eSt, eV] using this) (by rintro _ ⟨tag, rfl⟩; rfl) ?_
      simp -implicitDefEqProofs [n12, n21, n13, n31, n23, n32, n14, n41, n24, n42, n34, n43]
      refine CallQ.of (x := .sl .no (eEs (newsE (bookS s q.view) q.book))) (by have := news_spec (bookS s q.view) q.book (by omega); simpa using this) (by rintro _ ⟨tag, rfl⟩; rfl) ?_
      simp -implicitDefEqProofs [n12, n21, n13, n31, n23, n32, n14, n41, n24, n42, n34, n43]
      generalize hl : newsE (bookS s q.view) q.book = l at *
      have hll : l.length ≤ 1000000 := by rw [← hl]; exact Nat.le_trans (List.length_filter_le _ _) (by omega)
      refine loopK.intro (SvE me s q l b2 b3 b4) (fun t => l.length - natOf (t 81)) ?_ ?_
      · exact ⟨0, .nil, by simp, by simp, by simp, by simp, by simp, by simp, by simp, by simp, by omega, by simp [n12, n21, n13, n31, n23, n32, n14, n41, n24, n42, n34, n43, eM, k3, h1], ⟨_, by simp [n12, n21, n13, n31, n23, n32, n14, n41, n24, n42, n34, n43]; rfl, rfl⟩, by simp [n12, n21, n13, n31, n23, n32, n14, n41, n24, n42, n34, n43, eMq, ansM, k3, h1]⟩
      · rintro t hh ⟨k, tag, g5, g7, g10, g9, gt, g57, g58, g59, hk, e2, ⟨z, e3, hz⟩, e4⟩
        by_cases hlt : k < l.length
        · have hlt' : (k : Int) < (l.length : Int) := by omega
          have hw : IntKind.i64.wrap ((k : Int) + 1) = ((k + 1 : Nat) : Int) := by rw [w64 (by omega) (by omega)]; omega
          obtain ⟨x, hx⟩ : ∃ x, l[k]? = some x := ⟨l[k], by simp [hlt]⟩
          have hs1 : (l.take (k + 1)).map (recE q.view) = (l.take k).map (recE q.view) ++ [recE q.view x] := by
            rw [List.take_add_one, hx, List.map_append]; rfl
          simp -implicitDefEqProofs [g57, g58, g59, hlt', hx, eE]
          refine allocK.intro (fun b5 hb5 => ?_)
          have n25 : ¬ b2 = b5 := by rintro rfl; rw [e2] at hb5; simp at hb5
          have n52 : ¬ b5 = b2 := fun h => n25 h.symm
          have n35 : ¬ b3 = b5 := by rintro rfl; rw [e3] at hb5; simp at hb5
          have n53 : ¬ b5 = b3 := fun h => n35 h.symm
          have n45 : ¬ b4 = b5 := by rintro rfl; rw [e4] at hb5; simp at hb5
          have n54 : ¬ b5 = b4 := fun h => n45 h.symm
          rw [eM] at e2
          simp -implicitDefEqProofs [g5, g9, e2, e3, e4, gt, g59, hw, n25, n52, n35, n53, n45, n54]
          refine ⟨by omega, ⟨k + 1, appTag tag 66 11 [eRc (recE q.view x)], by simp [g5], by simp [g7], by simp [g10], ?_, by simp [gt], by simp [g57], by simp [g58], by simp, by omega, by simp [n25, n52, e2, eM], ⟨z, by simp [n35, n53, e3], hz⟩, by simp [n45, n54, e4]⟩, by omega⟩
          rw [hs1]
          simp [eRs, eRc, recE, zC, zE]
        · have hlt' : ¬ (k : Int) < (l.length : Int) := by omega
          rw [List.take_of_length_le (by omega)] at g9
          rw [eMq] at e4
          simp -implicitDefEqProofs [g58, g59, hlt']
          refine regionK.intro 3 follows_mixed (by kernel_rfl) ?_
          simp -implicitDefEqProofs [g9, g7, g10, e3, e4, hz, n34, n43]
          refine ServeR.yes h1 (by omega) (by omega) ?_
          simp [wroteS, tellS, ansM, eM, k0, k2, k1, k3, h1, hl]
    by_cases k4 : q.kind = 4
    · simp -implicitDefEqProofs [n12, n21, n13, n31, n23, n32, n14, n41, n24, n42, n34, n43, k0, k2, k1, k3, k4]
      by_cases a1 : s.held.add = q.view.add
      · by_cases a2 : s.held.del = q.view.del
        · have hne : s.held = q.view := by cases hh : s.held; cases hv : q.view; simp_all
          simp -implicitDefEqProofs [n12, n21, n13, n31, n23, n32, n14, n41, n24, n42, n34, n43, a1, a2]
          refine regionK.intro 3 follows_mixed (by kernel_rfl) ?_
          simp -implicitDefEqProofs [n12, n21, n13, n31, n23, n32, n14, n41, n24, n42, n34, n43]
          refine ServeR.yes h1 (by omega) (by omega) ?_
          simp [wroteS, tellS, ansM, eM, k0, k1, k2, k3, k4, h1, hne]
        · have a2' : (s.held.del == q.view.del) = false := by simpa using a2
          have hne : ¬ s.held = q.view := fun h => a2 (by rw [h])
          have hw := within_spec s.held q.view hs.rh hv
          simp -implicitDefEqProofs [n12, n21, n13, n31, n23, n32, n14, n41, n24, n42, n34, n43, a1, a2, a2']
          refine CallK.with hw (by simp [eV, a1]) ?_
          cases hi : withinV s.held q.view
          · simp -implicitDefEqProofs [n12, n21, n13, n31, n23, n32, n14, n41, n24, n42, n34, n43]
            refine regionK.intro 3 follows_mixed (by kernel_rfl) ?_
            simp -implicitDefEqProofs [n12, n21, n13, n31, n23, n32, n14, n41, n24, n42, n34, n43]
            refine ServeR.yes h1 (by omega) (by omega) ?_
            simp [wroteS, tellS, ansM, eM, k0, k1, k2, k3, k4, h1, hne, hi]
          · simp -implicitDefEqProofs [n12, n21, n13, n31, n23, n32, n14, n41, n24, n42, n34, n43]
            refine regionK.intro 3 follows_mixed (by kernel_rfl) ?_
            simp -implicitDefEqProofs [n12, n21, n13, n31, n23, n32, n14, n41, n24, n42, n34, n43]
            refine ServeR.yes h1 (by omega) (by omega) ?_
            simp [wroteS, tellS, ansM, eM, k0, k1, k2, k3, k4, h1, hne, hi, recV, eRs, eRc, zC, zE]
      · have a1' : (s.held.add == q.view.add) = false := by simpa using a1
        have hne : ¬ s.held = q.view := fun h => a1 (by rw [h])
        have hw := within_spec s.held q.view hs.rh hv
        simp -implicitDefEqProofs [n12, n21, n13, n31, n23, n32, n14, n41, n24, n42, n34, n43, a1, a1']
        refine CallK.with hw (by simp [eV]) ?_
        cases hi : withinV s.held q.view
        · simp -implicitDefEqProofs [n12, n21, n13, n31, n23, n32, n14, n41, n24, n42, n34, n43]
          refine regionK.intro 3 follows_mixed (by kernel_rfl) ?_
          simp -implicitDefEqProofs [n12, n21, n13, n31, n23, n32, n14, n41, n24, n42, n34, n43]
          refine ServeR.yes h1 (by omega) (by omega) ?_
          simp [wroteS, tellS, ansM, eM, k0, k1, k2, k3, k4, h1, hne, hi]
        · simp -implicitDefEqProofs [n12, n21, n13, n31, n23, n32, n14, n41, n24, n42, n34, n43]
          refine regionK.intro 3 follows_mixed (by kernel_rfl) ?_
          simp -implicitDefEqProofs [n12, n21, n13, n31, n23, n32, n14, n41, n24, n42, n34, n43]
          refine ServeR.yes h1 (by omega) (by omega) ?_
          simp [wroteS, tellS, ansM, eM, k0, k1, k2, k3, k4, h1, hne, hi, recV, eRs, eRc, zC, zE]
    · simp -implicitDefEqProofs [n12, n21, n13, n31, n23, n32, n14, n41, n24, n42, n34, n43, k0, k2, k1, k3, k4]
      exact ServeR.no (s := s) (q := q) (me := me) (by rintro ⟨_, h2, h3⟩; omega)
  · simp -implicitDefEqProofs [n12, n21, n13, n31, n23, n32, h1]
    exact ServeR.no (fun h => h1 h.1)
end Go.Proofs.YtjbbfiagijjdoaaGreat

/- Plain laws: logs there and back. No condition. -/
set_option linter.unusedSimpArgs false
set_option linter.unusedVariables false
namespace Go.Proofs.YtjbbfiagijjdoaaGreat
open Go Go.Rw Go.Proofs

def fitR (r : PRec) : Prop := r.entry.value < 18446744073709551616
def recsB (l : List PRec) : List UInt8 := l.flatMap recB
@[simp] theorem recsB_nil : recsB [] = [] := rfl
end Go.Proofs.YtjbbfiagijjdoaaGreat

/- Contracts: texts; records. No condition. -/
set_option linter.unusedSimpArgs false
set_option linter.unusedVariables false
set_option maxRecDepth 10000
namespace Go.Proofs.YtjbbfiagijjdoaaGreat
open Go Go.Rw Go.Proofs
-- a goal is never to be run by the elaborator
attribute [local irreducible] awp aops aop aopsE aeff

@[simp] theorem take_len_drop {α : Type} (l : List α) (n : Nat) : (l.drop n).take (l.length - n) = l.drop n := List.take_of_length_le (by simp)
def textA (b t : List UInt8) : AV := if 4000 < t.length then .tup [.sl .no [], eI 21] else .tup [.sl .no (eB (b ++ formF t.length ++ t)), eI 0]
def cutA (o : Option (List UInt8 × List UInt8)) : AV := match o with
  | some (t, r) => .tup [.sl .no (eB t), .sl .no (eB r), eI 0]
  | none => .tup [.sl .no [], .sl .no [], eI 21]
theorem bare_spec (r : PRec) : ASpec Tryz.prog 130 [.agg (eRc r)] (· = .agg (eRc (bareR r))) := by
  refine ASpec.of_awp Tryz.func130 (by kernel_rfl) rfl (by rw [Tryz.results130]) Tryz.ntmps130 ?_
  simp -implicitDefEqProofs [eRc]
  refine allocK.intro (fun b1 hb1 => ?_)
  simp -implicitDefEqProofs
  refine allocK.intro (fun b2 hb2 => ?_)
  have hbb : ¬ b1 = b2 := by rintro rfl; simp at hb2
  have hbb' : ¬ b2 = b1 := fun h => hbb h.symm
  simp -implicitDefEqProofs [hbb, hbb']
  refine allocK.intro (fun b3 hb3 => ?_)
  have n1 : ¬ b1 = b3 := by rintro rfl; simp [hbb] at hb3
  have n1' : ¬ b3 = b1 := fun h => n1 h.symm
  have n2 : ¬ b2 = b3 := by rintro rfl; simp [hbb'] at hb3
  have n2' : ¬ b3 = b2 := fun h => n2 h.symm
  have hz : zE.key = 0 ∧ zE.tag.num = 0 ∧ zE.tag.node = 0 ∧ zE.value = 0 := ⟨rfl, rfl, rfl, rfl⟩
  by_cases k1 : r.kind = 1
  · simp -implicitDefEqProofs [hbb, hbb', n1, n1', n2, n2', k1]
    refine regionK.modes [b3] [.q, .q, .q, .q, .q, .l, .s, .s] follows_mixed (by kernel_rfl) ?_
    simp -implicitDefEqProofs [hbb, hbb', n1, n1', n2, n2', k1, bareR, eRc, zC, maskH]
  by_cases k2 : r.kind = 2
  · simp -implicitDefEqProofs [hbb, hbb', n1, n1', n2, n2', k1, k2]
    refine regionK.modes [b3] [.q, .q, .q, .q, .q, .q, .l, .s, .s, .s] follows_mixed (by kernel_rfl) ?_
    simp -implicitDefEqProofs [hbb, hbb', n1, n1', n2, n2', k1, k2, bareR, eRc, zE, maskH]
  by_cases k5 : r.kind = 5
  · simp -implicitDefEqProofs [hbb, hbb', n1, n1', n2, n2', k1, k2, k5]
    refine regionK.modes [b3] [.q, .q, .q, .q, .q, .q, .l, .s, .s, .s] follows_mixed (by kernel_rfl) ?_
    simp -implicitDefEqProofs [hbb, hbb', n1, n1', n2, n2', k1, k2, k5, bareR, eRc, zE, maskH]
  by_cases k3 : r.kind = 3
  · simp -implicitDefEqProofs [hbb, hbb', n1, n1', n2, n2', k1, k2, k5, k3, bareR, eRc, zE, zC]
  by_cases k4 : r.kind = 4
  · simp -implicitDefEqProofs [hbb, hbb', n1, n1', n2, n2', k1, k2, k5, k3, k4, bareR, eRc, zE, zC, zV]
  by_cases k6 : r.kind = 6
  · simp -implicitDefEqProofs [hbb, hbb', n1, n1', n2, n2', k1, k2, k5, k3, k4, k6, bareR, eRc, zE, zC, zV]
  · simp -implicitDefEqProofs [hbb, hbb', n1, n1', n2, n2', k1, k2, k5, k3, k4, k6, bareR, eRc, zE, zC, zV]
end Go.Proofs.YtjbbfiagijjdoaaGreat

/- Contracts: which records can be, and their bytes. No condition. -/
set_option linter.unusedSimpArgs false
set_option linter.unusedVariables false
set_option maxRecDepth 10000
namespace Go.Proofs.YtjbbfiagijjdoaaGreat
open Go Go.Rw Go.Proofs
-- a goal is never to be run by the elaborator
attribute [local irreducible] awp aops aop aopsE aeff

theorem sameEs_one (x y : PEntry) : sameEs [x] [y] = sameE x y := by simp [sameEs]
theorem logsame_spec (a b : PRec) : ASpec Tryz.prog 129 [.agg (eRc a), .agg (eRc b)] (· = .v (.bool (sameR a b))) := by
  refine ASpec.of_awp Tryz.func129 (by kernel_rfl) rfl (by rw [Tryz.results129]) Tryz.ntmps129 ?_
  simp -implicitDefEqProofs [eRc]
  refine allocK.intro (fun b1 hb1 => ?_)
  simp -implicitDefEqProofs
  refine allocK.intro (fun b2 hb2 => ?_)
  have hbb : ¬ b1 = b2 := by rintro rfl; simp at hb2
  have hbb' : ¬ b2 = b1 := fun h => hbb h.symm
  by_cases h1 : a.kind = b.kind
  · by_cases h2 : a.view.add = b.view.add ∧ a.view.del = b.view.del
    · obtain ⟨h2, h3⟩ := h2
      by_cases h4 : a.cell.node = b.cell.node ∧ a.cell.change.add = b.cell.change.add ∧ a.cell.change.del = b.cell.change.del
      · obtain ⟨h4, h5, h6⟩ := h4
        by_cases h7 : a.n = b.n
        · simp -implicitDefEqProofs [hbb, hbb', h1, h2, h3, h4, h5, h6, h7]
          refine CallK.with (book_same [a.entry] [b.entry]) (by simp [eEs, eE]) ?_
          rw [sameEs_one]
          simp -implicitDefEqProofs [hbb, hbb', h1, h2, h3, h4, h5, h6, h7, sameR]
        · simp -implicitDefEqProofs [hbb, hbb', h1, h2, h3, h4, h5, h6, h7, sameR]
      · have h4' : sameR a b = false := by
          by_cases q : a.cell.node = b.cell.node
          · by_cases q2 : a.cell.change.add = b.cell.change.add
            · have q3 : ¬ a.cell.change.del = b.cell.change.del := fun q3 => h4 ⟨q, q2, q3⟩
              simp [sameR, q3]
            · simp [sameR, q2]
          · simp [sameR, q]
        have h4'' : (a.cell.node == b.cell.node && (a.cell.change.add == b.cell.change.add && a.cell.change.del == b.cell.change.del)) = false := by simpa using h4
        simp -implicitDefEqProofs [hbb, hbb', h1, h2, h3, h4', h4'']
    · have h4' : sameR a b = false := by
        by_cases q : a.view.add = b.view.add
        · have q3 : ¬ a.view.del = b.view.del := fun q3 => h2 ⟨q, q3⟩
          simp [sameR, q3]
        · simp [sameR, q]
      have h4'' : (a.view.add == b.view.add && a.view.del == b.view.del) = false := by simpa using h2
      simp -implicitDefEqProofs [hbb, hbb', h1, h4', h4'']
  · simp -implicitDefEqProofs [hbb, hbb', h1, sameR]
theorem logright_spec (r : PRec) : ASpec Tryz.prog 66 [.agg (eRc r)] (· = .v (.bool (rightR r))) := by
  refine ASpec.of_awp Tryz.func66 (by kernel_rfl) rfl (by rw [Tryz.results66]) Tryz.ntmps66 ?_
  simp -implicitDefEqProofs [eRc]
  refine allocK.intro (fun b1 hb1 => ?_)
  simp -implicitDefEqProofs
  by_cases h1 : r.kind < 1
  · have e : rightR r = false := by unfold rightR; rw [decide_eq_false (by omega)]; rfl
    refine regionK.intro 40 follows_mixed (by kernel_rfl) ?_
    simp -implicitDefEqProofs [h1, e]
  by_cases h2 : 6 < r.kind
  · have e : rightR r = false := by unfold rightR; rw [decide_eq_false (by omega)]; rfl
    refine regionK.intro 40 follows_mixed (by kernel_rfl) ?_
    simp -implicitDefEqProofs [h1, h2, e]
  have hk : 1 ≤ r.kind ∧ r.kind ≤ 6 := by omega
  refine regionK.intro 40 follows_mixed (by kernel_rfl) ?_
  simp -implicitDefEqProofs [h1, h2]
  refine CallQ.with (bare_spec r) (by simp [eRc]) ?_
  simp -implicitDefEqProofs
  refine CallQ.with (logsame_spec r (bareR r)) (by simp [eRc]) ?_
  cases h3 : sameR r (bareR r)
  · simp -implicitDefEqProofs [rightR, h3]
  simp -implicitDefEqProofs
  refine CallQ.with (change_right r.view) (by simp [eV]) ?_
  cases h4 : rightV r.view
  · simp -implicitDefEqProofs [rightR, h3, h4]
  simp -implicitDefEqProofs
  refine CallQ.with (change_right r.cell.change) (by simp [eV]) ?_
  cases h5 : rightV r.cell.change
  · simp -implicitDefEqProofs [rightR, h3, h4, h5]
  by_cases h6 : r.cell.node < 0
  · have h6' : ¬ 0 ≤ r.cell.node := by omega
    simp -implicitDefEqProofs [rightR, h3, h4, h5, h6, h6']
  by_cases h7 : 6 ≤ r.cell.node
  · have h7' : ¬ r.cell.node < 6 := by omega
    simp -implicitDefEqProofs [rightR, h3, h4, h5, h6, h7, h7']
  have h8 : 0 ≤ r.cell.node ∧ r.cell.node < 6 := by omega
  have hr : rightR r = (if r.kind = 1 then checkE (-1) [r.entry] else if r.kind = 2 ∨ r.kind = 5 then decide (0 < sizeV r.cell.change) else if r.kind = 4 ∨ r.kind = 6 then decide (1 ≤ r.n ∧ r.n ≤ 1000000) else true) := by
    unfold rightR
    rw [decide_eq_true hk, h3, h4, h5, decide_eq_true h8]
    simp
  simp -implicitDefEqProofs [h6, h7]
  by_cases k1 : r.kind = 1
  · rw [if_pos k1] at hr
    simp -implicitDefEqProofs [k1]
    refine CallK.with (book_check [r.entry]) (by simp [eEs, eE]) ?_
    rw [hr]
    cases checkE (-1) [r.entry] <;> simp -implicitDefEqProofs
  rw [if_neg k1] at hr
  by_cases k2 : r.kind = 2
  · rw [if_pos (.inl k2)] at hr
    simp -implicitDefEqProofs [k1, k2]
    refine CallK.with (change_size r.cell.change h5) (by simp [eV]) ?_
    simp -implicitDefEqProofs [hr]
  by_cases k5 : r.kind = 5
  · rw [if_pos (.inr k5)] at hr
    simp -implicitDefEqProofs [k1, k2, k5]
    refine CallK.with (change_size r.cell.change h5) (by simp [eV]) ?_
    simp -implicitDefEqProofs [hr]
  rw [if_neg (by omega)] at hr
  by_cases k4 : r.kind = 4
  · rw [if_pos (.inl k4)] at hr
    by_cases n1 : 1 ≤ r.n
    · simp -implicitDefEqProofs [k1, k2, k5, k4, n1, hr]
    · simp -implicitDefEqProofs [k1, k2, k5, k4, n1, hr]
  by_cases k6 : r.kind = 6
  · rw [if_pos (.inr k6)] at hr
    by_cases n1 : 1 ≤ r.n
    · simp -implicitDefEqProofs [k1, k2, k5, k4, k6, n1, hr]
    · simp -implicitDefEqProofs [k1, k2, k5, k4, k6, n1, hr]
  rw [if_neg (by omega)] at hr
  simp -implicitDefEqProofs [k1, k2, k5, k4, k6, hr]
end Go.Proofs.YtjbbfiagijjdoaaGreat

/- Contracts: records as numbers and bytes. No condition. -/
set_option linter.unusedSimpArgs false
set_option linter.unusedVariables false
set_option maxRecDepth 10000
namespace Go.Proofs.YtjbbfiagijjdoaaGreat
open Go Go.Rw Go.Proofs

def Nums (r : PRec) (x : AV) : Prop := ∃ tag, x = .sl tag (eU (numsR r))
def bytesA (o : Option (List UInt8)) : AV := match o with
  | some l => .tup [.sl .no (eB l), eI 0]
  | none => .tup [.sl .no [], eI 91]
end Go.Proofs.YtjbbfiagijjdoaaGreat

/- Contracts: records are read. No condition. -/
set_option linter.unusedSimpArgs false
set_option linter.unusedVariables false
set_option maxRecDepth 10000
namespace Go.Proofs.YtjbbfiagijjdoaaGreat
open Go Go.Rw Go.Proofs

def viewA (n : Nat) : AV := .tup [.agg (eV ((nmdV n).getD zV)), .v (.bool (nmdV n).isSome)]
/-- what is read: a record, if it can be -/
def OptR (o : Option PRec) (x : AV) : Prop := ∃ r, x = .tup [.agg (eRc r), .v (.bool o.isSome)] ∧ ∀ r', o = some r' → r' = r
end Go.Proofs.YtjbbfiagijjdoaaGreat

/- Contracts: log.one, log.Scan, log.Same. No condition. -/
set_option linter.unusedSimpArgs false
set_option linter.unusedVariables false
set_option maxRecDepth 10000
namespace Go.Proofs.YtjbbfiagijjdoaaGreat
open Go Go.Rw Go.Proofs

def LoneI (t0 body : List UInt8) (b : Nat) (t : Nat → AV) (h : Nat → Option (List AV)) : Prop := ∃ (k : Nat) (rest : List UInt8) (cur : List Nat) (tag : Tag), t 0 = .sl .no (eB t0) ∧ t 2 = .ptr b 0 ∧ t 4 = .sl .no (eB rest) ∧ t 6 = .sl tag (eU cur) ∧ appOK tag 166 1 ∧
  h b = some (eRc zR) ∧ rest.length ≤ k ∧ rest.length + cur.length ≤ body.length ∧ allF body = (getsF k rest).map (cur ++ ·)
def LoneM (body : List UInt8) (b : Nat) (t : Nat → AV) (h : Nat → Option (List AV)) : Prop := ∃ (cur : List Nat) (tag : Tag), t 2 = .ptr b 0 ∧ t 6 = .sl tag (eU cur) ∧ h b = some (eRc zR) ∧ allF body = some cur
def scanA (b : List UInt8) : AV := .tup [.sl .no (eRs (scanR b).1), eI (scanR b).2]
def ScI (b : List UInt8) (t : Nat → AV) (h : Nat → Option (List AV)) : Prop := ∃ (n : Nat) (cur : List PRec) (tag : Tag), t 0 = .sl .no (eB b) ∧ t 4 = .sl tag (eRs cur) ∧ t 5 = eI n ∧ appOK tag 66 11 ∧ n ≤ b.length ∧ cur.length ≤ n ∧
  scanR b = (cur ++ (scanR (b.drop n)).1, n + (scanR (b.drop n)).2)
def ScM (b : List UInt8) (t : Nat → AV) (h : Nat → Option (List AV)) : Prop := ∃ tag, t 4 = .sl tag (eRs (scanR b).1) ∧ t 5 = eI (scanR b).2
end Go.Proofs.YtjbbfiagijjdoaaGreat

/- Contracts: log.Same. No condition. -/
set_option linter.unusedSimpArgs false
set_option linter.unusedVariables false
set_option maxRecDepth 10000
namespace Go.Proofs.YtjbbfiagijjdoaaGreat
open Go Go.Rw Go.Proofs

def EqrI (a b : List PRec) (t : Nat → AV) (_ : Nat → Option (List AV)) : Prop := ∃ k : Nat, t 15 = .sl .no (eRs a) ∧ t 1 = .sl .no (eRs b) ∧ t 2 = .fn 129 [] ∧ t 16 = .v (.int .i64 a.length) ∧ t 17 = .v (.int .i64 k) ∧ k ≤ a.length ∧ sameRs (a.drop k) (b.drop k) = sameRs a b

theorem sameRs_len : ∀ {a b : List PRec}, a.length ≠ b.length → sameRs a b = false
  | [], [], h => absurd rfl h
  | [], _ :: _, _ => rfl
  | _ :: _, [], _ => rfl
  | x :: a, y :: b, h => by
    have := sameRs_len (a := a) (b := b) (by simp at h; exact h)
    simp [sameRs, this]

end Go.Proofs.YtjbbfiagijjdoaaGreat

/- Plain: whether a record can be, told otherwise. -/
set_option linter.unusedSimpArgs false
set_option linter.unusedVariables false
set_option maxRecDepth 10000
namespace Go.Proofs.YtjbbfiagijjdoaaGreat
open Go Go.Rw Go.Proofs

def chg9 (r : PRec) : Bool := rightV r.cell.change && !decide (r.cell.change = zV)
def right9F (r : PRec) : Bool :=
  if r.kind = 1 then rightV r.view && checkE (-1) [r.entry] && sameR ⟨0, zV, r.cell, zE, r.n⟩ zR
  else if r.kind = 2 then rightV r.view && chg9 r && decide (0 ≤ r.cell.node ∧ r.cell.node ≤ 5) && sameR ⟨0, zV, zC, r.entry, r.n⟩ zR
  else if r.kind = 3 then rightV r.view && sameR ⟨0, zV, r.cell, r.entry, r.n⟩ zR
  else if r.kind = 4 ∨ r.kind = 6 then decide (1 ≤ r.n ∧ r.n ≤ 1000000) && sameR ⟨0, r.view, r.cell, r.entry, 0⟩ zR
  else if r.kind = 5 then rightV r.view && chg9 r && sameR ⟨0, zV, ⟨r.cell.node, zV⟩, r.entry, r.n⟩ zR
  else false
theorem sizeV_pos {v : PView} (h : rightV v = true) : 0 < sizeV v ↔ ¬ v = zV := by
  have e : sizeV v = (popN 64 v.add.toNat : Int) + popN 64 v.del.toNat := by unfold sizeV; rfl
  have h0 : 0 ≤ sizeV v := by rw [e]; omega
  have hz := sizeV_zero h
  obtain ⟨a, b⟩ := v
  constructor
  · rintro h1 h2
    cases h2
    have := hz.2 ⟨rfl, rfl⟩
    omega
  · intro h1
    have : ¬ sizeV ⟨a, b⟩ = 0 := fun h2 => h1 (by obtain ⟨h3, h4⟩ := hz.1 h2; simp at h3 h4; rw [h3, h4]; rfl)
    omega
theorem right9_eq (r : PRec) : right9F r = rightR r := by
  obtain ⟨k, v, ⟨cn, cc⟩, e, n⟩ := r
  rw [Bool.eq_iff_iff]
  unfold right9F rightR chg9
  by_cases k1 : k = 1
  · subst k1
    simp [sameR_iff, sameE_zero, zR, bareR, sameE_iff]
    constructor
    · rintro ⟨⟨h1, h2⟩, h3, h4⟩
      cases h3
      exact ⟨⟨⟨⟨⟨rfl, h4⟩, h1⟩, rightV_zero⟩, by omega, by omega⟩, h2⟩
    · rintro ⟨⟨⟨⟨⟨h3, h4⟩, h1⟩, _⟩, _⟩, h2⟩
      exact ⟨⟨h1, h2⟩, h3, h4⟩
  by_cases k2 : k = 2
  · subst k2
    by_cases hc : rightV cc = true
    · have hp := sizeV_pos hc
      simp [sameR_iff, sameE_zero, zR, bareR, sameE_iff, hc, hp]
      constructor
      · rintro ⟨⟨⟨h1, h2⟩, h3, h4⟩, h5, h6⟩
        exact ⟨⟨⟨⟨h5, h6⟩, h1⟩, h3, by omega⟩, h2⟩
      · rintro ⟨⟨⟨⟨h5, h6⟩, h1⟩, h3, h4⟩, h2⟩
        exact ⟨⟨⟨h1, h2⟩, h3, by omega⟩, h5, h6⟩
    · simp [hc]
  by_cases k3 : k = 3
  · subst k3
    simp [sameR_iff, sameE_zero, zR, bareR, sameE_iff]
    constructor
    · rintro ⟨h1, h2, h3⟩
      cases h2
      exact ⟨⟨⟨⟨rfl, h3⟩, h1⟩, rightV_zero⟩, by omega, by omega⟩
    · rintro ⟨⟨⟨⟨h2, h3⟩, h1⟩, _⟩, _⟩
      exact ⟨h1, h2, h3⟩
  by_cases k46 : k = 4 ∨ k = 6
  · have k5 : ¬ k = 5 := by omega
    simp [sameR_iff, sameE_zero, zR, bareR, sameE_iff, k1, k2, k3, k5, k46]
    constructor
    · rintro ⟨h1, h2, h3, h4⟩
      cases h3
      cases h2
      exact ⟨⟨⟨⟨⟨by omega, rfl, rfl, h4⟩, rightV_zero⟩, rightV_zero⟩, by omega, by omega⟩, h1⟩
    · rintro ⟨⟨⟨⟨⟨_, h2, h3, h4⟩, _⟩, _⟩, _⟩, h1⟩
      exact ⟨h1, h2, h3, h4⟩
  by_cases k5 : k = 5
  · subst k5
    by_cases hc : rightV cc = true
    · have hp := sizeV_pos hc
      simp [sameR_iff, sameE_zero, zR, bareR, sameE_iff, hc, hp]
      constructor
      · rintro ⟨⟨h1, h2⟩, h3, h4⟩
        cases h3
        exact ⟨⟨⟨⟨rfl, h4⟩, h1⟩, by omega, by omega⟩, h2⟩
      · rintro ⟨⟨⟨⟨rfl, h4⟩, h1⟩, _⟩, h2⟩
        exact ⟨⟨h1, h2⟩, rfl, h4⟩
    · simp [hc]
  · have : ¬ (1 ≤ k ∧ k ≤ 6) := by omega
    simp only [if_neg k1, if_neg k2, if_neg k3, if_neg k46, if_neg k5, decide_eq_false this, Bool.false_and]
end Go.Proofs.YtjbbfiagijjdoaaGreat

/- Contracts: records, told otherwise: alike, Same. No condition. -/
set_option linter.unusedSimpArgs false
set_option linter.unusedVariables false
set_option maxRecDepth 10000
namespace Go.Proofs.YtjbbfiagijjdoaaGreat
open Go Go.Rw Go.Proofs
-- a goal is never to be run by the elaborator
attribute [local irreducible] awp aops aop aopsE aeff

theorem alike9_spec (a b : PRec) (ha : fitR a) (hb : fitR b) : ASpec Tryz.prog 78 [.agg (eRc a), .agg (eRc b)] (· = .v (.bool (sameR a b))) := by
  refine ASpec.of_awp Tryz.func78 (by kernel_rfl) rfl (by rw [Tryz.results78]) Tryz.ntmps78 ?_
  simp -implicitDefEqProofs [eRc]
  refine allocK.intro (fun b1 hb1 => ?_)
  simp -implicitDefEqProofs
  refine allocK.intro (fun b2 hb2 => ?_)
  have hbb : ¬ b1 = b2 := by rintro rfl; simp at hb2
  have hbb' : ¬ b2 = b1 := fun h => hbb h.symm
  by_cases h1 : a.kind = b.kind
  · by_cases h2 : a.view.add = b.view.add ∧ a.view.del = b.view.del
    · obtain ⟨h2, h3⟩ := h2
      by_cases h4 : a.cell.node = b.cell.node ∧ a.cell.change.add = b.cell.change.add ∧ a.cell.change.del = b.cell.change.del
      · obtain ⟨h4, h5, h6⟩ := h4
        by_cases h7 : a.n = b.n
        · simp -implicitDefEqProofs [hbb, hbb', h1, h2, h3, h4, h5, h6, h7]
          refine CallK.with (alike7_spec a.entry b.entry ha hb) (by simp [eE]) ?_
          simp -implicitDefEqProofs [hbb, hbb', h1, h2, h3, h4, h5, h6, h7, sameR]
        · simp -implicitDefEqProofs [hbb, hbb', h1, h2, h3, h4, h5, h6, h7, sameR]
      · have h4' : sameR a b = false := by
          by_cases q : a.cell.node = b.cell.node
          · by_cases q2 : a.cell.change.add = b.cell.change.add
            · have q3 : ¬ a.cell.change.del = b.cell.change.del := fun q3 => h4 ⟨q, q2, q3⟩
              simp [sameR, q3]
            · simp [sameR, q2]
          · simp [sameR, q]
        have h4'' : (a.cell.node == b.cell.node && (a.cell.change.add == b.cell.change.add && a.cell.change.del == b.cell.change.del)) = false := by simpa using h4
        simp -implicitDefEqProofs [hbb, hbb', h1, h2, h3, h4', h4'']
    · have h4' : sameR a b = false := by
        by_cases q : a.view.add = b.view.add
        · have q3 : ¬ a.view.del = b.view.del := fun q3 => h2 ⟨q, q3⟩
          simp [sameR, q3]
        · simp [sameR, q]
      have h4'' : (a.view.add == b.view.add && a.view.del == b.view.del) = false := by simpa using h2
      simp -implicitDefEqProofs [hbb, hbb', h1, h4', h4'']
  · simp -implicitDefEqProofs [hbb, hbb', h1, sameR]

def S9I (a b : List PRec) (t : Nat → AV) (_ : Nat → Option (List AV)) : Prop := ∃ k : Nat, t 0 = .sl .no (eRs a) ∧ t 1 = .sl .no (eRs b) ∧ t 12 = eI a.length ∧ t 13 = eI k ∧ k ≤ a.length ∧ sameRs (a.drop k) (b.drop k) = sameRs a b
theorem same9_spec (a b : List PRec) (ha : ∀ x ∈ a, fitR x) (hb : ∀ x ∈ b, fitR x) : ASpec Tryz.prog 25 [.sl .no (eRs a), .sl .no (eRs b)] (· = .v (.bool (sameRs a b))) := by
  refine ASpec.of_awp Tryz.func25 (by kernel_rfl) rfl (by rw [Tryz.results25]) Tryz.ntmps25 ?_
  simp -implicitDefEqProofs
  intro h1 h2
  refine branch_dec (fun hb' => ?_) (fun hb' => ?_)
  · have hl : a.length = b.length := by omega
    simp -implicitDefEqProofs
    intro _
    refine loopK.intro (S9I a b) (fun t => a.length - natOf (t 13)) ?_ ?_
    · exact ⟨0, by simp, by simp, by simp, by simp, by omega, by simp⟩
    rintro t hh ⟨k, g0, g1, g12, g13, hk, he⟩
    simp -implicitDefEqProofs [g12, g13]
    refine branch_dec (fun hlt => ?_) (fun hlt => ?_)
    · have hlt : k < a.length := by omega
      have hlt2 : k < b.length := by omega
      obtain ⟨x, hx⟩ : ∃ x, a[k]? = some x := ⟨a[k], by simp [hlt]⟩
      obtain ⟨y, hy⟩ : ∃ y, b[k]? = some y := ⟨b[k], by simp [hlt2]⟩
      have hdx : a.drop k = x :: a.drop (k + 1) := by
        rw [List.drop_eq_getElem_cons hlt]; rw [List.getElem?_eq_getElem hlt] at hx; rw [Option.some.inj hx]
      have hdy : b.drop k = y :: b.drop (k + 1) := by
        rw [List.drop_eq_getElem_cons hlt2]; rw [List.getElem?_eq_getElem hlt2] at hy; rw [Option.some.inj hy]
      rw [hdx, hdy, sameRs] at he
      have hj1 : IntKind.i64.wrap ((k : Int) + 1) = (k : Int) + 1 := w64 (by omega) (by omega)
      simp -implicitDefEqProofs [g13]
      refine regionK.intro 10 follows_mixed (by kernel_rfl) ?_
      simp -implicitDefEqProofs [g0, g1, g13, hx, hy, eRc]
      have hsp := alike9_spec x y (ha x (List.mem_of_getElem? hx)) (hb y (List.mem_of_getElem? hy))
      refine CallQ.with hsp (by simp [eRc]) ?_
      simp -implicitDefEqProofs
      refine branch_intro (fun h3 => ?_) (fun h3 => ?_)
      · rw [h3, Bool.true_and] at he
        simp -implicitDefEqProofs [g13, hj1]
        exact ⟨⟨k + 1, by simp [g0], by simp [g1], by simp [g12], by simp, by omega, he⟩, by omega⟩
      · rw [h3, Bool.false_and] at he
        simp -implicitDefEqProofs [← he]
    · have hk' : k = a.length := by omega
      subst hk'
      rw [List.drop_length, hl, List.drop_length, sameRs] at he
      simp -implicitDefEqProofs [← he]
  · have hr : sameRs a b = false := sameRs_len (by omega)
    simp -implicitDefEqProofs [hr]

theorem fitR_zero : fitR zR := by simp [fitR, zR, zE]
theorem seq_cut {P : Program} {x y : Code} {n : Nat} {t : Nat → AV} {h : Nat → Option (List AV)} {Q : AExit → ASt → Prop} (M : (Nat → AV) → (Nat → Option (List AV)) → Prop) (hx : awp P x (cutQ M n Q) ⟨n, t, h⟩)
    (hy : ∀ t h, M t h → awp P y Q ⟨n, t, h⟩) : awp P (.seq x y) Q ⟨n, t, h⟩ := by
  rw [awp_seqQ]
  exact awp_mono x (cutQ_use hy) hx
theorem chg_ne (v : PView) : (!v.add == 0 || !v.del == 0) = !decide (v = zV) := by
  obtain ⟨a, b⟩ := v
  by_cases h1 : a = 0 <;> by_cases h2 : b = 0 <;> simp [zV, h1, h2]
def R9N (r : PRec) (b1 : Nat) (t : Nat → AV) (h : Nat → Option (List AV)) : Prop := t 1 = .ptr b1 0 ∧ h b1 = some (eRc r) ∧ t 3 = .v (.bool (rightV r.view)) ∧ t 4 = .v (.bool (chg9 r)) ∧ t 5 = .v (.bool (decide (0 ≤ r.cell.node ∧ r.cell.node ≤ 5)))
def R9O (r : PRec) (b1 : Nat) (t : Nat → AV) (h : Nat → Option (List AV)) : Prop := t 1 = .ptr b1 0 ∧ h b1 = some (eRc r) ∧ t 3 = .v (.bool (rightV r.view)) ∧ t 4 = .v (.bool (chg9 r)) ∧ t 5 = .v (.bool (decide (0 ≤ r.cell.node ∧ r.cell.node ≤ 5))) ∧ t 6 = .v (.bool (decide (1 ≤ r.n ∧ r.n ≤ 1000000)))
def R9M (r : PRec) (b1 : Nat) (t : Nat → AV) (h : Nat → Option (List AV)) : Prop := t 1 = .ptr b1 0 ∧ h b1 = some (eRc r) ∧ t 3 = .v (.bool (rightV r.view)) ∧ t 4 = .v (.bool (chg9 r))
theorem right9_spec (r : PRec) (hf : fitR r) : ASpec Tryz.prog 49 [.agg (eRc r)] (· = .v (.bool (right9F r))) := by
  refine ASpec.of_awp Tryz.func49 (by kernel_rfl) rfl (by rw [Tryz.results49]) Tryz.ntmps49 ?_
  simp -implicitDefEqProofs [eRc]
  refine allocK.intro (fun b1 hb1 => ?_)
  simp -implicitDefEqProofs
  refine regionK.cut (R9M r b1) ?_ ?_
  · refine regionK.intro 15 follows_mixed (by kernel_rfl) ?_
    simp -implicitDefEqProofs
    refine CallQ.with (right4_spec r.view) (by simp [eV]) ?_
    simp -implicitDefEqProofs
    refine CallQ.with (right4_spec r.cell.change) (by simp [eV]) ?_
    cases hc : rightV r.cell.change
    · simp -implicitDefEqProofs
      exact ⟨by simp, by simp [eRc], by simp, by simp [chg9, hc]⟩
    · simp -implicitDefEqProofs
      exact ⟨by simp, by simp [eRc], by simp, by simp [chg9, hc]; exact chg_ne _⟩
  · rintro t h ⟨g1, gh, g3, g4⟩
    refine seq_cut (R9N r b1) ?_ ?_
    · rw [eRc] at gh
      by_cases n1 : 0 ≤ r.cell.node
      · simp -implicitDefEqProofs [g1, gh, n1]
        exact ⟨by simp [g1], by simp [gh, eRc], by simp [g3], by simp [g4], by simp [n1]⟩
      · simp -implicitDefEqProofs [g1, gh, n1]
        exact ⟨by simp [g1], by simp [gh, eRc], by simp [g3], by simp [g4], by simp [n1]⟩
    rintro t h ⟨g1, gh, g3, g4, g5⟩
    refine seq_cut (R9O r b1) ?_ ?_
    · rw [eRc] at gh
      by_cases n1 : 1 ≤ r.n
      · simp -implicitDefEqProofs [g1, gh, n1]
        exact ⟨by simp [g1], by simp [gh, eRc], by simp [g3], by simp [g4], by simp [g5], by simp [n1]⟩
      · simp -implicitDefEqProofs [g1, gh, n1]
        exact ⟨by simp [g1], by simp [gh, eRc], by simp [g3], by simp [g4], by simp [g5], by simp [n1]⟩
    rintro t h ⟨g1, gh, g3, g4, g5, g6⟩
    rw [eRc] at gh
    simp -implicitDefEqProofs [g1, gh, g3, g4, g5, g6]
    refine allocK.intro (fun b2 hb2 => ?_)
    have n1 : ¬ b1 = b2 := by rintro rfl; rw [gh] at hb2; simp at hb2
    have n1' : ¬ b2 = b1 := fun h => n1 h.symm
    by_cases k1 : r.kind = 1
    · have e : right9F r = (rightV r.view && checkE (-1) [r.entry] && sameR ⟨0, zV, r.cell, zE, r.n⟩ zR) := by unfold right9F; rw [if_pos k1]
      rw [e]
      cases hv : rightV r.view
      · simp -implicitDefEqProofs [g1, gh, g3, g4, g5, g6, n1, n1', k1, hv]
      · simp -implicitDefEqProofs [g1, gh, g3, g4, g5, g6, n1, n1', k1, hv]
        refine CallK.with (check7_spec [r.entry]) (by simp [eEs, eE]) ?_
        cases hE : checkE (-1) [r.entry]
        · simp -implicitDefEqProofs [g1, gh, g3, g4, g5, g6, n1, n1', k1, hv]
        · simp -implicitDefEqProofs [g1, gh, g3, g4, g5, g6, n1, n1', k1, hv]
          refine CallK.with (alike9_spec ⟨0, zV, r.cell, zE, r.n⟩ zR (by first | exact hf | exact fitR_zero) fitR_zero) (by simp [eRc, zR, zV, zC, zE]) ?_
          simp -implicitDefEqProofs
    by_cases k2 : r.kind = 2
    · have e : right9F r = (rightV r.view && chg9 r && decide (0 ≤ r.cell.node ∧ r.cell.node ≤ 5) && sameR ⟨0, zV, zC, r.entry, r.n⟩ zR) := by unfold right9F; rw [if_neg k1, if_pos k2]
      rw [e]
      cases hv : rightV r.view
      · simp -implicitDefEqProofs [g1, gh, g3, g4, g5, g6, n1, n1', k1, k2, hv]
      cases hc : chg9 r
      · simp -implicitDefEqProofs [g1, gh, g3, g4, g5, g6, n1, n1', k1, k2, hv, hc]
      by_cases hn : 0 ≤ r.cell.node ∧ r.cell.node ≤ 5
      · rw [decide_eq_true hn] at g5 ⊢
        simp -implicitDefEqProofs [g1, gh, g3, g4, g5, g6, n1, n1', k1, k2, hv, hc]
        refine CallK.with (alike9_spec ⟨0, zV, zC, r.entry, r.n⟩ zR (by first | exact hf | exact fitR_zero) fitR_zero) (by simp [eRc, zR, zV, zC, zE]) ?_
        simp -implicitDefEqProofs
      · rw [decide_eq_false hn] at g5 ⊢
        simp -implicitDefEqProofs [g1, gh, g3, g4, g5, g6, n1, n1', k1, k2, hv, hc]
    by_cases k3 : r.kind = 3
    · have e : right9F r = (rightV r.view && sameR ⟨0, zV, r.cell, r.entry, r.n⟩ zR) := by unfold right9F; rw [if_neg k1, if_neg k2, if_pos k3]
      rw [e]
      cases hv : rightV r.view
      · simp -implicitDefEqProofs [g1, gh, g3, g4, g5, g6, n1, n1', k1, k2, k3, hv]
      · simp -implicitDefEqProofs [g1, gh, g3, g4, g5, g6, n1, n1', k1, k2, k3, hv]
        refine CallK.with (alike9_spec ⟨0, zV, r.cell, r.entry, r.n⟩ zR (by first | exact hf | exact fitR_zero) fitR_zero) (by simp [eRc, zR, zV, zC, zE]) ?_
        simp -implicitDefEqProofs
    by_cases k4 : r.kind = 4
    · have e : right9F r = (decide (1 ≤ r.n ∧ r.n ≤ 1000000) && sameR ⟨0, r.view, r.cell, r.entry, 0⟩ zR) := by unfold right9F; rw [if_neg k1, if_neg k2, if_neg k3, if_pos (.inl k4)]
      rw [e]
      by_cases hn : 1 ≤ r.n ∧ r.n ≤ 1000000
      · rw [decide_eq_true hn] at g6 ⊢
        simp -implicitDefEqProofs [g1, gh, g3, g4, g5, g6, n1, n1', k1, k2, k3, k4]
        refine CallK.with (alike9_spec ⟨0, r.view, r.cell, r.entry, 0⟩ zR (by first | exact hf | exact fitR_zero) fitR_zero) (by simp [eRc, zR, zV, zC, zE]) ?_
        simp -implicitDefEqProofs
      · rw [decide_eq_false hn] at g6 ⊢
        simp -implicitDefEqProofs [g1, gh, g3, g4, g5, g6, n1, n1', k1, k2, k3, k4]
    by_cases k6 : r.kind = 6
    · have e : right9F r = (decide (1 ≤ r.n ∧ r.n ≤ 1000000) && sameR ⟨0, r.view, r.cell, r.entry, 0⟩ zR) := by unfold right9F; rw [if_neg k1, if_neg k2, if_neg k3, if_pos (.inr k6)]
      rw [e]
      by_cases hn : 1 ≤ r.n ∧ r.n ≤ 1000000
      · rw [decide_eq_true hn] at g6 ⊢
        simp -implicitDefEqProofs [g1, gh, g3, g4, g5, g6, n1, n1', k1, k2, k3, k4, k6]
        refine CallK.with (alike9_spec ⟨0, r.view, r.cell, r.entry, 0⟩ zR (by first | exact hf | exact fitR_zero) fitR_zero) (by simp [eRc, zR, zV, zC, zE]) ?_
        simp -implicitDefEqProofs
      · rw [decide_eq_false hn] at g6 ⊢
        simp -implicitDefEqProofs [g1, gh, g3, g4, g5, g6, n1, n1', k1, k2, k3, k4, k6]
    by_cases k5 : r.kind = 5
    · have e : right9F r = (rightV r.view && chg9 r && sameR ⟨0, zV, ⟨r.cell.node, zV⟩, r.entry, r.n⟩ zR) := by unfold right9F; rw [if_neg k1, if_neg k2, if_neg k3, if_neg (by omega), if_pos k5]
      rw [e]
      cases hv : rightV r.view
      · simp -implicitDefEqProofs [g1, gh, g3, g4, g5, g6, n1, n1', k1, k2, k3, k4, k6, k5, hv]
      cases hc : chg9 r
      · simp -implicitDefEqProofs [g1, gh, g3, g4, g5, g6, n1, n1', k1, k2, k3, k4, k6, k5, hv, hc]
      · simp -implicitDefEqProofs [g1, gh, g3, g4, g5, g6, n1, n1', k1, k2, k3, k4, k6, k5, hv, hc]
        refine CallK.with (alike9_spec ⟨0, zV, ⟨r.cell.node, zV⟩, r.entry, r.n⟩ zR (by first | exact hf | exact fitR_zero) fitR_zero) (by simp [eRc, zR, zV, zC, zE]) ?_
        simp -implicitDefEqProofs
    have e : right9F r = false := by unfold right9F; rw [if_neg k1, if_neg k2, if_neg k3, if_neg (by omega), if_neg k5]
    rw [e]
    simp -implicitDefEqProofs [g1, gh, g3, g4, g5, g6, n1, n1', k1, k2, k3, k4, k6, k5]
end Go.Proofs.YtjbbfiagijjdoaaGreat

/- Contracts: records' bytes, told otherwise. No condition. -/
set_option linter.unusedSimpArgs false
set_option linter.unusedVariables false
set_option maxRecDepth 10000
namespace Go.Proofs.YtjbbfiagijjdoaaGreat
open Go Go.Rw Go.Proofs

theorem right9r_spec (r : PRec) (hf : fitR r) : ASpec Tryz.prog 49 [.agg (eRc r)] (· = .v (.bool (rightR r))) := by
  rw [← right9_eq]; exact right9_spec r hf
end Go.Proofs.YtjbbfiagijjdoaaGreat

/- Contracts: the laws on replicas, what is alive and what can be. No condition. -/
set_option linter.unusedSimpArgs false
set_option linter.unusedVariables false
set_option maxRecDepth 10000
namespace Go.Proofs.YtjbbfiagijjdoaaGreat
open Go Go.Rw Go.Proofs
-- a goal is never to be run by the elaborator
attribute [local irreducible] awp aops aop aopsE aeff

def v7 : PView := ⟨7, 0⟩
def putM (n : Int) : PMsg := ⟨3, 1, 2, 1, 1, v7, [], [⟨1, ⟨n, 0⟩, 4616189618054758400⟩]⟩
theorem put13_spec (n : Int) : ASpec Tryz.prog 69 [eI n] (· = .agg (eM (putM n))) := by
  refine ASpec.of_awp Tryz.func69 (by kernel_rfl) rfl (by rw [Tryz.results69]) Tryz.ntmps69 ?_
  simp -implicitDefEqProofs
  refine allocK.intro (fun b1 hb1 => ?_)
  simp -implicitDefEqProofs [eM, putM, v7, eEs, eE]
theorem rightV_v7 : rightV v7 = true := by decide
theorem right_put : rightM (putM 3) = true := by decide
theorem ok7 : OkT 0 (newS v7) := okT_new rightV_v7
theorem wrote7 : wroteS (newS v7) (putM 3) = [recE v7 ⟨1, ⟨3, 0⟩, 4616189618054758400⟩] := by rfl
theorem quiet7 : wroteS (applyS (newS v7) (recE v7 ⟨1, ⟨3, 0⟩, 4616189618054758400⟩)) (putM 3) = [] := by
  have := behind_quiet ok7 right_put (by decide)
  unfold behindS at this
  rw [wrote7] at this
  exact this
theorem alive13_spec : ASpec Tryz.prog 18 [] (· = .v (.bool true)) := by
  refine ASpec.of_awp Tryz.func18 (by kernel_rfl) rfl (by rw [Tryz.results18]) Tryz.ntmps18 ?_
  simp -implicitDefEqProofs
  refine CallK.with (new_spec v7) (by simp [eV, v7]) ?_
  simp -implicitDefEqProofs [eSt, v7]
  refine allocK.intro (fun b1 hb1 => ?_)
  simp -implicitDefEqProofs
  refine regionK.modes [] [.q, .q, .q, .q, .q, .q, .q, .l, .r, .s, .r] follows_mixed (by kernel_rfl) ?_
  simp -implicitDefEqProofs
  refine CallQ.with (put13_spec 3) rfl ?_
  have hs1 := serve_spec 2 (newS v7) (putM 3) (ok7.ok (by omega)) rightV_v7 (by simp [putM]) (by simp [putM])
  have e1 := wrote7
  have e2 : servable 2 (putM 3) = true := by decide
  simp -implicitDefEqProofs
  refine CallQ.with hs1 (by simp [newS, v7, putM, eSt, eM]) ?_
  rw [serveA, recsS, answerS, e2, if_pos rfl, if_pos rfl, e1]
  have ha := tell_answers (s := newS v7) e2
  generalize tellS 2 (newS v7) (putM 3) = m1 at *
  simp -implicitDefEqProofs [eM]
  refine allocK.intro (fun b2 hb2 => ?_)
  have n12 : ¬ b1 = b2 := by rintro rfl; simp at hb2
  have n21 : ¬ b2 = b1 := fun h => n12 h.symm
  simp -implicitDefEqProofs [n12, n21]
  refine regionK.intro 13 follows_mixed (by kernel_rfl) ?_
  simp -implicitDefEqProofs [n12, n21]
  refine CallQ.with (put13_spec 3) rfl ?_
  simp -implicitDefEqProofs [n12, n21]
  refine CallQ.with (msg_answers (putM 3) m1) (by simp [eM]) ?_
  rw [ha]
  simp -implicitDefEqProofs [n12, n21]
  have hc0 : okCh (cellsS (newS v7) v7) := ok7.cellsOk v7
  have hap := apply_spec (newS v7) (recE v7 ⟨1, ⟨3, 0⟩, 4616189618054758400⟩) (ok7.ok (by omega)) rightV_v7 (ok7.news (by decide))
  have hr1 : rightR (recE v7 ⟨1, ⟨3, 0⟩, 4616189618054758400⟩) = true := by decide
  have ok8 := okT_apply ok7 hr1
  have e3 := quiet7
  generalize applyS (newS v7) (recE v7 ⟨1, ⟨3, 0⟩, 4616189618054758400⟩) = s1 at *
  have hs2 := serve_spec 2 s1 (putM 3) (ok8.ok (by omega)) rightV_v7 (by simp [putM]) (by simp [putM])
  refine regionK.modes [] [.q, .q, .q, .q, .q, .q, .q, .q, .q, .q, .q, .l, .r, .s, .r] follows_mixed (by kernel_rfl) ?_
  simp -implicitDefEqProofs [n12, n21, eRs, eRc]
  refine CallQ.with hap (by simp [newS, v7, eSt, eRc]) ?_
  simp -implicitDefEqProofs [n12, n21]
  refine CallQ.with (put13_spec 3) rfl ?_
  simp -implicitDefEqProofs [n12, n21]
  refine CallQ.with hs2 (by simp) ?_
  rw [serveA, recsS, answerS, e2, if_pos rfl, if_pos rfl, e3]
  generalize tellS 2 s1 (putM 3) = m2 at *
  simp -implicitDefEqProofs [n12, n21, eM]
  refine allocK.intro (fun b3 hb3 => ?_)
  have n13 : ¬ b1 = b3 := by rintro rfl; simp [n12] at hb3
  have n31 : ¬ b3 = b1 := fun h => n13 h.symm
  have n23 : ¬ b2 = b3 := by rintro rfl; simp at hb3
  have n32 : ¬ b3 = b2 := fun h => n23 h.symm
  simp -implicitDefEqProofs [n12, n21, n13, n31, n23, n32]
  refine regionK.modes [] [.q, .q, .q, .q, .q, .q, .q, .l, .r, .s, .r] follows_mixed (by kernel_rfl) ?_
  simp -implicitDefEqProofs [n12, n21, n13, n31, n23, n32]
  refine CallQ.with (put13_spec 3) rfl ?_
  have hs3 := serve_spec 1 (newS v7) (putM 3) (ok7.ok (by omega)) rightV_v7 (by simp [putM]) (by simp [putM])
  have e4 : servable 1 (putM 3) = false := by decide
  simp -implicitDefEqProofs [n12, n21, n13, n31, n23, n32]
  refine CallQ.with hs3 (by simp [newS, v7, putM, eSt, eM]) ?_
  rw [serveA, recsS, answerS, e4]
  simp -implicitDefEqProofs [n12, n21, n13, n31, n23, n32, eM, zM]
  refine allocK.intro (fun b4 hb4 => ?_)
  have n14 : ¬ b1 = b4 := by rintro rfl; simp [n12, n13] at hb4
  have n41 : ¬ b4 = b1 := fun h => n14 h.symm
  have n24 : ¬ b2 = b4 := by rintro rfl; simp [n23] at hb4
  have n42 : ¬ b4 = b2 := fun h => n24 h.symm
  have n34 : ¬ b3 = b4 := by rintro rfl; simp at hb4
  have n43 : ¬ b4 = b3 := fun h => n34 h.symm
  simp -implicitDefEqProofs [n12, n21, n13, n31, n23, n32, n14, n41, n24, n42, n34, n43]
theorem take_all {l : List PRec} {k : Nat} {x : PRec} (hx : l[k]? = some x) (hp : rightR x = true) (hn : ∀ y ∈ l.take k, rightR y = true) : ∀ y ∈ l.take (k + 1), rightR y = true := by
  intro y hy
  rw [List.take_add_one, hx] at hy
  rcases List.mem_append.1 hy with h | h
  · exact hn y h
  · simp at h; rw [h]; exact hp
def R13I (l : List PRec) (b1 : Nat) (q : PMsg) (me : Int) (t : Nat → AV) (h : Nat → Option (List AV)) : Prop := ∃ k : Nat, t 0 = eI me ∧ t 5 = .ptr b1 0 ∧ t 9 = .sl .no (eRs l) ∧ t 10 = eI l.length ∧ t 11 = eI k ∧ k ≤ l.length ∧ h b1 = some (eM q) ∧ ∀ r ∈ l.take k, rightR r = true
def R13M (l : List PRec) (b1 : Nat) (q : PMsg) (me : Int) (t : Nat → AV) (h : Nat → Option (List AV)) : Prop := t 0 = eI me ∧ t 5 = .ptr b1 0 ∧ h b1 = some (eM q) ∧ ∀ r ∈ l, rightR r = true
theorem right13_spec (me : Int) (l : List PRec) (q : PMsg) (hf : ∀ r ∈ l, fitR r) (hl : l.length ≤ 1000000000) : ASpec Tryz.prog 19 [eI me, .sl .no (eRs l), .agg (eM q)] (· = .v (.bool (l.all rightR && (decide (0 ≤ me) && decide (me < 6) && rightM q)))) := by
  refine ASpec.of_awp Tryz.func19 (by kernel_rfl) rfl (by rw [Tryz.results19]) Tryz.ntmps19 ?_
  simp -implicitDefEqProofs [eM]
  refine allocK.intro (fun b1 hb1 => ?_)
  simp -implicitDefEqProofs
  intro _
  refine loopK.post (R13I l b1 q me) (fun t => l.length - natOf (t 11)) (R13M l b1 q me) ?_ ?_ ?_
  · exact ⟨0, by simp, by simp, by simp, by simp, by simp, by omega, by simp [eM], by simp⟩
  · rintro t hh ⟨k, g0, g5, g9, g10, g11, hk, e1, hr⟩
    by_cases hlt : k < l.length
    · have hlt' : (k : Int) < (l.length : Int) := by omega
      have hw : IntKind.i64.wrap ((k : Int) + 1) = ((k + 1 : Nat) : Int) := by rw [w64 (by omega) (by omega)]; omega
      obtain ⟨r, hx⟩ : ∃ r, l[k]? = some r := ⟨l[k], by simp [hlt]⟩
      have hrs := right9r_spec r (hf r (List.mem_of_getElem? hx))
      simp -implicitDefEqProofs [g9, g10, g11, hlt', hx, eRc]
      refine allocK.intro (fun b2 hb2 => ?_)
      have n12 : ¬ b1 = b2 := by rintro rfl; rw [e1] at hb2; simp at hb2
      have n21 : ¬ b2 = b1 := fun h => n12 h.symm
      simp -implicitDefEqProofs [n12, n21]
      refine CallK.with hrs (by simp [eRc]) ?_
      cases hi : rightR r
      · have hall : l.all rightR = false := by
          rw [Bool.eq_false_iff]
          intro h
          rw [List.all_eq_true] at h
          have := h r (List.mem_of_getElem? hx)
          rw [hi] at this; simp at this
        simp -implicitDefEqProofs [hall]
      · simp -implicitDefEqProofs [g11, hw, n12, n21]
        exact ⟨⟨k + 1, by simp [g0], by simp [g5], by simp [g9], by simp [g10], by simp, by omega, by simp [n12, e1], take_all hx hi hr⟩, by omega⟩
    · have hlt' : ¬ (k : Int) < (l.length : Int) := by omega
      rw [List.take_of_length_le (by omega)] at hr
      simp -implicitDefEqProofs [g10, g11, hlt']
      exact ⟨g0, g5, e1, hr⟩
  rintro t hh ⟨g0, g5, e1, hr⟩
  rw [eM] at e1
  have hall : l.all rightR = true := by rw [List.all_eq_true]; exact hr
  by_cases h1 : 0 ≤ me
  · by_cases h2 : me < 6
    · simp -implicitDefEqProofs [g0, g5, e1, h1, h2, hall]
      refine CallK.with (right11_spec q) (by simp [eM]) ?_
      simp -implicitDefEqProofs
      simp [hall, h1, h2]
    · simp -implicitDefEqProofs [g0, g5, e1, h1, h2, hall]
  · simp -implicitDefEqProofs [g0, g5, e1, h1, hall]
end Go.Proofs.YtjbbfiagijjdoaaGreat

/- Contracts: the state behind records. No condition. -/
set_option linter.unusedSimpArgs false
set_option linter.unusedVariables false
set_option maxRecDepth 10000
namespace Go.Proofs.YtjbbfiagijjdoaaGreat
open Go Go.Rw Go.Proofs
-- a goal is never to be run by the elaborator
attribute [local irreducible] awp aops aop aopsE aeff

def FoI (v : PView) (l : List PRec) (b2 b3 : Nat) (t : Nat → AV) (h : Nat → Option (List AV)) : Prop := ∃ k : Nat, t 4 = .ptr b2 0 ∧ t 5 = .ptr b3 0 ∧ t 10 = .sl .no (eRs l) ∧ t 11 = eI l.length ∧ t 12 = eI k ∧ k ≤ l.length ∧ (∃ z, h b2 = some z ∧ z.length = 7) ∧ h b3 = some (eSt (foldS v (l.take k)))
def FoM (v : PView) (l : List PRec) (b2 b3 : Nat) (t : Nat → AV) (h : Nat → Option (List AV)) : Prop := t 4 = .ptr b2 0 ∧ t 5 = .ptr b3 0 ∧ (∃ z, h b2 = some z ∧ z.length = 7) ∧ h b3 = some (eSt (foldS v l))
theorem fold_spec (v : PView) (l : List PRec) (hv : rightV v = true) (hl : ∀ r ∈ l, rightR r = true) (hn : l.length ≤ 100000) : ASpec Tryz.prog 20 [.agg (eV v), .sl .no (eRs l)] (· = .agg (eSt (foldS v l))) := by
  refine ASpec.of_awp Tryz.func20 (by kernel_rfl) rfl (by rw [Tryz.results20]) Tryz.ntmps20 ?_
  simp -implicitDefEqProofs [eV]
  refine allocK.intro (fun b1 hb1 => ?_)
  simp -implicitDefEqProofs
  refine allocK.intro (fun b2 hb2 => ?_)
  have n12 : ¬ b1 = b2 := by rintro rfl; simp at hb2
  have n21 : ¬ b2 = b1 := fun h => n12 h.symm
  simp -implicitDefEqProofs [n12, n21]
  refine CallK.with (new_spec v) (by simp [eV]) ?_
  simp -implicitDefEqProofs [eSt]
  refine allocK.intro (fun b3 hb3 => ?_)
  have n13 : ¬ b1 = b3 := by rintro rfl; simp [n12] at hb3
  have n31 : ¬ b3 = b1 := fun h => n13 h.symm
  have n23 : ¬ b2 = b3 := by rintro rfl; simp at hb3
  have n32 : ¬ b3 = b2 := fun h => n23 h.symm
  simp -implicitDefEqProofs [n12, n21, n13, n31, n23, n32]
  intro _
  refine loopK.post (FoI v l b2 b3) (fun t => l.length - natOf (t 12)) (FoM v l b2 b3) ?_ ?_ ?_
  · exact ⟨0, by simp, by simp, by simp, by simp, by simp, by omega, ⟨[.sl .nil [], .sl .nil [], .sl .nil [], eI 0, eI 0, eI 0, eI 0], by simp [n23, n21], rfl⟩, by simp [foldS, newS, eSt]⟩
  · rintro t hh ⟨k, g4, g5, g10, g11, g12, hk, ⟨z, kz, hz⟩, k3⟩
    by_cases hlt : k < l.length
    · have hlt' : (k : Int) < (l.length : Int) := by omega
      obtain ⟨r, hx⟩ : ∃ r, l[k]? = some r := ⟨l[k], by simp [hlt]⟩
      have hw : IntKind.i64.wrap ((k : Int) + 1) = ((k + 1 : Nat) : Int) := by rw [w64 (by omega) (by omega)]; omega
      have hok := okN_fold hv hl k hk
      have hr := hl r (List.mem_of_getElem? hx)
      have hst := foldS_step (v := v) hx
      generalize foldS v (l.take k) = s at *
      have hap := apply_spec s r (hok.ok (by omega)) (right_cell hr).1 (hok.news hr)
      generalize applyS s r = s2 at *
      simp -implicitDefEqProofs [g10, g11, g12, hlt', hx, eRc]
      refine allocK.intro (fun b4 hb4 => ?_)
      have n24 : ¬ b2 = b4 := by rintro rfl; rw [kz] at hb4; simp at hb4
      have n42 : ¬ b4 = b2 := fun h => n24 h.symm
      have n34 : ¬ b3 = b4 := by rintro rfl; rw [k3] at hb4; simp at hb4
      have n43 : ¬ b4 = b3 := fun h => n34 h.symm
      rw [eSt] at k3
      simp -implicitDefEqProofs [g5, k3, n23, n32, n24, n42, n34, n43]
      refine CallK.with hap (by simp [eSt, eRc]) ?_
      simp -implicitDefEqProofs [g5, k3, n23, n32, n24, n42, n34, n43, g12, hw, eSt]
      exact ⟨⟨k + 1, by simp [g4], by simp [g5], by simp [g10], by simp [g11], by simp, by omega, ⟨z, by simp [n23, n24, kz], hz⟩, by rw [hst]; simp [eSt]⟩, by omega⟩
    · have hlt' : ¬ (k : Int) < (l.length : Int) := by omega
      rw [List.take_of_length_le (by omega)] at k3
      simp -implicitDefEqProofs [g11, g12, hlt']
      exact ⟨by simp [g4], by simp [g5], ⟨z, kz, hz⟩, k3⟩
  rintro t hh ⟨g4, g5, ⟨z, kz, hz⟩, k3⟩
  generalize foldS v l = s at *
  rw [eSt] at k3
  simp -implicitDefEqProofs [g4, g5, kz, k3, hz, n23, n32, eSt]
end Go.Proofs.YtjbbfiagijjdoaaGreat

/- The law ReplicaQuiet, walked. No condition. -/
set_option linter.unusedSimpArgs false
set_option linter.unusedVariables false
set_option maxRecDepth 10000
namespace Go.Proofs.YtjbbfiagijjdoaaGreat
open Go Go.Rw Go.Proofs
-- a goal is never to be run by the elaborator
attribute [local irreducible] awp aops aop aopsE aeff

theorem right13_of {me : Int} {l : List PRec} {q : PMsg} (h : (l.all rightR && (decide (0 ≤ me) && decide (me < 6) && rightM q)) = true) : (∀ r ∈ l, rightR r = true) ∧ (0 ≤ me ∧ me < 6) ∧ rightM q = true := by
  simp only [Bool.and_eq_true, decide_eq_true_eq, List.all_eq_true] at h
  exact ⟨h.1, h.2.1, h.2.2⟩
theorem tell_head (me : Int) (s : PState) (q : PMsg) : (tellS me s q).to = q.frm ∧ (tellS me s q).frm = me ∧ (tellS me s q).view = q.view ∧ 5 ≤ (tellS me s q).kind ∧ ((tellS me s q).cells = [] ∨ q.kind = 0) ∧ ((tellS me s q).book = [] ∨ q.kind = 2) := by
  unfold tellS ansM
  by_cases k0 : q.kind = 0
  · simp [k0]
  · by_cases k2 : q.kind = 2
    · simp [k2]
    · simp [k0, k2]
theorem wrote_asks {s : PState} {q : PMsg} (h : q.kind = 0 ∨ q.kind = 2) : wroteS s q = [] := by
  unfold wroteS
  rw [if_neg (by omega), if_neg (by omega), if_neg (by omega)]
end Go.Proofs.YtjbbfiagijjdoaaGreat

/- The law ReplicaTells, walked. No condition. -/
set_option linter.unusedSimpArgs false
set_option linter.unusedVariables false
set_option maxRecDepth 10000
namespace Go.Proofs.YtjbbfiagijjdoaaGreat
open Go Go.Rw Go.Proofs
-- a goal is never to be run by the elaborator
attribute [local irreducible] awp aops aop aopsE aeff

theorem foldl_step {s : PState} {l : List PRec} {k : Nat} {r : PRec} (h : l[k]? = some r) : (l.take (k + 1)).foldl applyS s = applyS ((l.take k).foldl applyS s) r := by
  rw [List.take_add_one, h, List.foldl_append]; rfl
def askM (k : Int) (q : PMsg) (v : PView) : PMsg := ⟨k, 3, q.to, 1, 2, v, [], []⟩
def backB (q : PMsg) (s : PState) (v : PView) : PMsg := ⟨6, q.to, 3, 1, 2, v, [], bookS s v⟩
def backC (q : PMsg) (s : PState) (v : PView) : PMsg := ⟨5, q.to, 3, 1, 2, v, cellsS s v, []⟩
theorem ask_book (q : PMsg) (s : PState) (v : PView) : serveA q.to s (askM 2 q v) = .tup [.sl .no [], .agg (eM (backB q s v)), .v (.bool true)] := by
  have e : servable q.to (askM 2 q v) = true := by simp [servable, askM]
  rw [serveA, recsS, answerS, e]; rfl
theorem ask_cells (q : PMsg) (s : PState) (v : PView) : serveA q.to s (askM 0 q v) = .tup [.sl .no [], .agg (eM (backC q s v)), .v (.bool true)] := by
  have e : servable q.to (askM 0 q v) = true := by simp [servable, askM]
  rw [serveA, recsS, answerS, e]; rfl
def TlI (l : List PRec) (q : PMsg) (v : PView) (s : PState) (b1 b2 b3 b5 : Nat) (t : Nat → AV) (h : Nat → Option (List AV)) : Prop := ∃ k : Nat, t 4 = .ptr b1 0 ∧ t 5 = .ptr b2 0 ∧ t 7 = .ptr b3 0 ∧ t 11 = .ptr b5 0 ∧ t 65 = .sl .no (eRs l) ∧ t 66 = eI l.length ∧ t 67 = eI k ∧ k ≤ l.length ∧ h b1 = some (eM q) ∧ h b2 = some (eV v) ∧ h b3 = some (eSt s) ∧ h b5 = some (eSt ((l.take k).foldl applyS s))
def TlM (l : List PRec) (q : PMsg) (v : PView) (s : PState) (b1 b2 b3 b5 : Nat) (t : Nat → AV) (h : Nat → Option (List AV)) : Prop := t 4 = .ptr b1 0 ∧ t 5 = .ptr b2 0 ∧ t 7 = .ptr b3 0 ∧ t 11 = .ptr b5 0 ∧ h b1 = some (eM q) ∧ h b2 = some (eV v) ∧ h b3 = some (eSt s) ∧ h b5 = some (eSt (l.foldl applyS s))
theorem tells13_law (l : List PRec) (q : PMsg) (v : PView) (hf : ∀ r ∈ l, fitR r) (hl : l.length ≤ 1048576) : ASpec Tryz.prog 7 [.sl .no (eRs l), .agg (eM q), .agg (eV v)] (· = .v (.bool true)) := by
  refine ASpec.of_awp Tryz.func7 (by kernel_rfl) rfl (by rw [Tryz.results7]) Tryz.ntmps7 ?_
  simp -implicitDefEqProofs [eM, eV]
  refine allocK.intro (fun b1 hb1 => ?_)
  simp -implicitDefEqProofs
  refine allocK.intro (fun b2 hb2 => ?_)
  have n12 : ¬ b1 = b2 := by rintro rfl; simp at hb2
  have n21 : ¬ b2 = b1 := fun h => n12 h.symm
  simp -implicitDefEqProofs [n12, n21]
  refine CallK.eq alive13_spec ?_
  simp -implicitDefEqProofs [n12, n21]
  intro _
  by_cases h60 : 60 < l.length
  · have h60' : (60 : Int) < (l.length : Int) := by omega
    simp -implicitDefEqProofs [n12, n21, h60, h60']
  have h60' : ¬ (60 : Int) < (l.length : Int) := by omega
  simp -implicitDefEqProofs [n12, n21, h60, h60']
  refine CallK.with (right13_spec q.to l q hf (by omega)) (by simp [eM]) ?_
  cases hr : (l.all rightR && (decide (0 ≤ q.to) && decide (q.to < 6) && rightM q))
  · simp -implicitDefEqProofs
  obtain ⟨hr1, hr2, hr3⟩ := right13_of hr
  simp -implicitDefEqProofs [n12, n21]
  refine CallK.with (change_right v) (by simp [eV]) ?_
  cases hv : rightV v
  · simp -implicitDefEqProofs
  by_cases hk : q.kind = 3 ∨ q.kind = 1
  rotate_left
  · have k3 : ¬ q.kind = 3 := fun h => hk (.inl h)
    have k1 : ¬ q.kind = 1 := fun h => hk (.inr h)
    simp -implicitDefEqProofs [n12, n21, k3, k1]
  have hfold := fold_spec v7 l rightV_v7 hr1 (by omega)
  have hok := okT_fold rightV_v7 hr1 l.length (Nat.le_refl _)
  rw [List.take_length] at hok
  generalize foldS v7 l = s at *
  have R := rightM_of hr3
  have hsv := serve_spec q.to s q (hok.ok (by omega)) R.view (by have := R.clen; omega) (by have := R.blen; omega)
  have e2 : recsS q.to s q = wroteS s q := by
    rw [recsS, if_pos]
    rcases hk with hk | hk <;> simp [servable, hk]
  have hwr := wrote_right (s := s) hr3
  have hwl := wrote_len s q
  have hcl := R.clen
  have hbl := R.blen
  have hbe := behind_ok hok hr3
  have hvq := R.view
  generalize ho : servable q.to q = ok1 at *
  generalize answerS q.to s q = a1 at *
  have gate : ∀ {T : Prop}, (q.kind = 3 → T) → (q.kind = 1 → T) → T := fun h3 h1 => hk.elim h3 h1
  rcases hk with k3 | k1
  · have hko : ¬ q.kind = 1 := by omega
    simp -implicitDefEqProofs [n12, n21, k3, hko]
    refine CallK.with hfold (by simp [eV, v7]) ?_
    simp -implicitDefEqProofs [n12, n21, eSt]
    refine allocK.intro (fun b3 hb3 => ?_)
    have n13 : ¬ b1 = b3 := by rintro rfl; simp [n12] at hb3
    have n31 : ¬ b3 = b1 := fun h => n13 h.symm
    have n23 : ¬ b2 = b3 := by rintro rfl; simp at hb3
    have n32 : ¬ b3 = b2 := fun h => n23 h.symm
    simp -implicitDefEqProofs [n12, n21, n13, n31, n23, n32, k3]
    refine CallK.with hsv (by simp [eSt, eM, k3]) ?_
    rw [serveA, e2, ho]
    simp -implicitDefEqProofs [n12, n21, n13, n31, n23, n32, eM]
    refine allocK.intro (fun b4 hb4 => ?_)
    have n14 : ¬ b1 = b4 := by rintro rfl; simp [n12, n13] at hb4
    have n41 : ¬ b4 = b1 := fun h => n14 h.symm
    have n24 : ¬ b2 = b4 := by rintro rfl; simp [n23] at hb4
    have n42 : ¬ b4 = b2 := fun h => n24 h.symm
    have n34 : ¬ b3 = b4 := by rintro rfl; simp at hb4
    have n43 : ¬ b4 = b3 := fun h => n34 h.symm
    simp -implicitDefEqProofs [n12, n21, n13, n31, n23, n32, n14, n41, n24, n42, n34, n43]
    refine allocK.intro (fun b5 hb5 => ?_)
    have n15 : ¬ b1 = b5 := by rintro rfl; simp [n12, n13, n14] at hb5
    have n51 : ¬ b5 = b1 := fun h => n15 h.symm
    have n25 : ¬ b2 = b5 := by rintro rfl; simp [n23, n24] at hb5
    have n52 : ¬ b5 = b2 := fun h => n25 h.symm
    have n35 : ¬ b3 = b5 := by rintro rfl; simp [n34] at hb5
    have n53 : ¬ b5 = b3 := fun h => n35 h.symm
    have n45 : ¬ b4 = b5 := by rintro rfl; simp at hb5
    have n54 : ¬ b5 = b4 := fun h => n45 h.symm
    simp -implicitDefEqProofs [n12, n21, n13, n31, n23, n32, n14, n41, n24, n42, n34, n43, n15, n51, n25, n52, n35, n53, n45, n54]
    intro _
    unfold behindS at hbe
    have fin3 := behind_book hok hr3
    have fin1 := behind_cells hok hr3
    have fin2 := fun hn => behind_other hok hr3 (v := v) hv hn
    unfold behindS at fin1 fin2 fin3
    generalize wroteS s q = w at *
    refine loopK.post (TlI w q v s b1 b2 b3 b5) (fun t => w.length - natOf (t 67)) (TlM w q v s b1 b2 b3 b5) ?_ ?_ ?_
    · exact ⟨0, by simp, by simp, by simp, by simp, by simp, by simp, by simp, by omega, by simp [n12, n21, n13, n31, n23, n32, n14, n41, n24, n42, n34, n43, n15, n51, n25, n52, n35, n53, n45, n54, eM, k3], by simp [n12, n21, n13, n31, n23, n32, n14, n41, n24, n42, n34, n43, n15, n51, n25, n52, n35, n53, n45, n54, eV], by simp [n12, n21, n13, n31, n23, n32, n14, n41, n24, n42, n34, n43, n15, n51, n25, n52, n35, n53, n45, n54, eSt], by simp [n12, n21, n13, n31, n23, n32, n14, n41, n24, n42, n34, n43, n15, n51, n25, n52, n35, n53, n45, n54, eSt]⟩
    · rintro t hh ⟨k, g4, g5, g7, g11, g65, g66, g67, hkl, e4, e5, e7, e11⟩
      by_cases hlt : k < w.length
      · have hlt' : (k : Int) < (w.length : Int) := by omega
        have hw : IntKind.i64.wrap ((k : Int) + 1) = ((k + 1 : Nat) : Int) := by rw [w64 (by omega) (by omega)]; omega
        obtain ⟨r, hx⟩ : ∃ r, w[k]? = some r := ⟨w[k], by simp [hlt]⟩
        have hst := foldl_step (s := s) hx
        have hrr := hwr r (List.mem_of_getElem? hx)
        have hokk := okT_list hok (l := w.take k) (fun r hr => hwr r (List.mem_of_mem_take hr))
        have hlen : (w.take k).length ≤ w.length := by rw [List.length_take]; omega
        generalize (w.take k).foldl applyS s = sk at *
        have hap := apply_spec sk r (hokk.ok (by omega)) (right_cell hrr).1 (hokk.news hrr)
        generalize applyS sk r = sk2 at *
        simp -implicitDefEqProofs [g65, g66, g67, hlt', hx, eRc]
        refine allocK.intro (fun b6 hb6 => ?_)
        have n16 : ¬ b1 = b6 := by rintro rfl; rw [e4] at hb6; simp at hb6
        have n26 : ¬ b2 = b6 := by rintro rfl; rw [e5] at hb6; simp at hb6
        have n36 : ¬ b3 = b6 := by rintro rfl; rw [e7] at hb6; simp at hb6
        have n56 : ¬ b5 = b6 := by rintro rfl; rw [e11] at hb6; simp at hb6
        have n65 : ¬ b6 = b5 := fun h => n56 h.symm
        rw [eSt] at e11
        simp -implicitDefEqProofs [g11, e11, n56, n65]
        refine CallK.with hap (by simp [eSt, eRc]) ?_
        simp -implicitDefEqProofs [g11, e11, n56, n65, g67, hw, eSt]
        exact ⟨⟨k + 1, by simp [g4], by simp [g5], by simp [g7], by simp [g11], by simp [g65], by simp [g66], by simp, by omega, by simp [n16, n15, e4], by simp [n26, n25, e5], by simp [n36, n35, e7], by rw [hst]; simp [eSt]⟩, by omega⟩
      · have hlt' : ¬ (k : Int) < (w.length : Int) := by omega
        rw [List.take_of_length_le (by omega)] at e11
        simp -implicitDefEqProofs [g66, g67, hlt']
        exact ⟨by simp [g4], by simp [g5], by simp [g7], by simp [g11], e4, e5, e7, e11⟩
    rintro t hh ⟨g4, g5, g7, g11, e4, e5, e7, e11⟩
    generalize w.foldl applyS s = t1 at *
    have hs1 := serve_spec q.to t1 (askM 2 q q.view) (hbe.ok (by omega)) hvq (by simp [askM]) (by simp [askM])
    have hs2 := serve_spec q.to t1 (askM 2 q v) (hbe.ok (by omega)) hv (by simp [askM]) (by simp [askM])
    have hs3 := serve_spec q.to s (askM 2 q v) (hok.ok (by omega)) hv (by simp [askM]) (by simp [askM])
    rw [ask_book] at hs1 hs2 hs3
    have nc : q.cells = [] := RightQ.noCells hr3 (by omega) (by omega)
    have fin := fin3 (by omega)
    have f1 : newsE (backB q t1 q.view).book q.book = [] := fin
    have f2 : newsC (backB q t1 q.view).cells q.cells = [] := by rw [nc]; rfl
    have f3 : ¬ v = q.view → sameM (backB q t1 v) (backB q s v) = true := fun hn => by unfold backB; rw [(fin2 hn).1]; exact samesM _
    generalize backB q t1 q.view = a at *
    generalize backB q t1 v = bb at *
    generalize backB q s v = cc at *
    have w2 : IntKind.i64.wrap 2 = 2 := by decide
    have w0 : IntKind.i64.wrap 0 = 0 := by decide
    rw [eM] at e4
    rw [eV] at e5
    rw [eSt] at e7 e11
    simp -implicitDefEqProofs [g4, e4, w2, w0, k3]
    refine allocK.intro (fun b6 hb6 => ?_)
    have n16 : ¬ b1 = b6 := by rintro rfl; rw [e4] at hb6; simp at hb6
    have n26 : ¬ b2 = b6 := by rintro rfl; rw [e5] at hb6; simp at hb6
    have n36 : ¬ b3 = b6 := by rintro rfl; rw [e7] at hb6; simp at hb6
    have n56 : ¬ b5 = b6 := by rintro rfl; rw [e11] at hb6; simp at hb6
    have n61 : ¬ b6 = b1 := fun h => n16 h.symm
    have n62 : ¬ b6 = b2 := fun h => n26 h.symm
    have n63 : ¬ b6 = b3 := fun h => n36 h.symm
    have n65 : ¬ b6 = b5 := fun h => n56 h.symm
    simp -implicitDefEqProofs [g4, g5, g7, g11, e4, e5, e7, e11, n16, n61, n26, n62, n36, n63, n56, n65, k3]
    refine CallK.with hs1 (by simp [eSt, eM, askM]) ?_
    simp -implicitDefEqProofs [eM]
    refine allocK.intro (fun b7 hb7 => ?_)
    have n17 : ¬ b1 = b7 := by rintro rfl; simp [n16, e4] at hb7
    have n27 : ¬ b2 = b7 := by rintro rfl; simp [n26, e5] at hb7
    have n37 : ¬ b3 = b7 := by rintro rfl; simp [n36, e7] at hb7
    have n57 : ¬ b5 = b7 := by rintro rfl; simp [n56, e11] at hb7
    have n67 : ¬ b6 = b7 := by rintro rfl; simp at hb7
    have n71 : ¬ b7 = b1 := fun h => n17 h.symm
    have n72 : ¬ b7 = b2 := fun h => n27 h.symm
    have n73 : ¬ b7 = b3 := fun h => n37 h.symm
    have n75 : ¬ b7 = b5 := fun h => n57 h.symm
    have n76 : ¬ b7 = b6 := fun h => n67 h.symm
    simp -implicitDefEqProofs [g4, g5, g7, g11, e4, e5, e7, e11, n16, n61, n26, n62, n36, n63, n56, n65, n17, n27, n37, n57, n67, n71, n72, n73, n75, n76]
    refine CallK.with (withinE_spec q.book a.book (by omega)) (by simp) ?_
    rw [f1]
    simp -implicitDefEqProofs [g4, g5, g7, g11, e4, e5, e7, e11, n16, n61, n26, n62, n36, n63, n56, n65, n17, n27, n37, n57, n67, n71, n72, n73, n75, n76]
    refine CallK.via (newsC_spec a.cells q.cells (by omega)) (by simp) ?_
    rintro _ ⟨tag, rfl⟩
    rw [f2]
    simp -implicitDefEqProofs [g4, g5, g7, g11, e4, e5, e7, e11, n16, n61, n26, n62, n36, n63, n56, n65, n17, n27, n37, n57, n67, n71, n72, n73, n75, n76]
    refine CallK.with hs2 (by simp [eSt, eM, askM]) ?_
    simp -implicitDefEqProofs [eM]
    refine allocK.intro (fun b8 hb8 => ?_)
    have n18 : ¬ b1 = b8 := by rintro rfl; simp [n16, n17, e4] at hb8
    have n28 : ¬ b2 = b8 := by rintro rfl; simp [n26, n27, e5] at hb8
    have n38 : ¬ b3 = b8 := by rintro rfl; simp [n36, n37, e7] at hb8
    have n58 : ¬ b5 = b8 := by rintro rfl; simp [n56, n57, e11] at hb8
    have n68 : ¬ b6 = b8 := by rintro rfl; simp [n67] at hb8
    have n81 : ¬ b8 = b1 := fun h => n18 h.symm
    have n82 : ¬ b8 = b2 := fun h => n28 h.symm
    have n83 : ¬ b8 = b3 := fun h => n38 h.symm
    have n86 : ¬ b8 = b6 := fun h => n68 h.symm
    simp -implicitDefEqProofs [g4, g5, g7, g11, e4, e5, e7, e11, n16, n61, n26, n62, n36, n63, n56, n65, n17, n27, n37, n57, n67, n71, n72, n73, n75, n76, n18, n28, n38, n68, n81, n82, n83, n86]
    refine CallK.with hs3 (by simp [eSt, eM, askM]) ?_
    simp -implicitDefEqProofs [eM]
    refine allocK.intro (fun b9 hb9 => ?_)
    have n19 : ¬ b1 = b9 := by rintro rfl; simp [n16, n17, n18, e4] at hb9
    have n29 : ¬ b2 = b9 := by rintro rfl; simp [n26, n27, n28, e5] at hb9
    have n89 : ¬ b8 = b9 := by rintro rfl; simp at hb9
    have n91 : ¬ b9 = b1 := fun h => n19 h.symm
    have n92 : ¬ b9 = b2 := fun h => n29 h.symm
    have n98 : ¬ b9 = b8 := fun h => n89 h.symm
    by_cases v1 : v.add = q.view.add
    · by_cases v2 : v.del = q.view.del
      · simp -implicitDefEqProofs [g4, g5, e4, e5, n16, n61, n26, n62, n36, n63, n56, n65, n17, n27, n37, n57, n67, n71, n72, n73, n75, n76, n18, n28, n38, n68, n81, n82, n83, n86, n19, n29, n89, n91, n92, n98, v1, v2]
      · have v2' : (v.del == q.view.del) = false := by simpa using v2
        have hne : ¬ v = q.view := fun h => v2 (by rw [h])
        simp -implicitDefEqProofs [g4, g5, e4, e5, n16, n61, n26, n62, n36, n63, n56, n65, n17, n27, n37, n57, n67, n71, n72, n73, n75, n76, n18, n28, n38, n68, n81, n82, n83, n86, n19, n29, n89, n91, n92, n98, v1, v2, v2']
        refine CallK.with (msg_same bb cc) (by simp [eM]) ?_
        rw [f3 hne]
        simp -implicitDefEqProofs
    · have v1' : (v.add == q.view.add) = false := by simpa using v1
      have hne : ¬ v = q.view := fun h => v1 (by rw [h])
      simp -implicitDefEqProofs [g4, g5, e4, e5, n16, n61, n26, n62, n36, n63, n56, n65, n17, n27, n37, n57, n67, n71, n72, n73, n75, n76, n18, n28, n38, n68, n81, n82, n83, n86, n19, n29, n89, n91, n92, n98, v1, v1']
      refine CallK.with (msg_same bb cc) (by simp [eM]) ?_
      rw [f3 hne]
      simp -implicitDefEqProofs
  · have hko : ¬ q.kind = 3 := by omega
    simp -implicitDefEqProofs [n12, n21, k1, hko]
    refine CallK.with hfold (by simp [eV, v7]) ?_
    simp -implicitDefEqProofs [n12, n21, eSt]
    refine allocK.intro (fun b3 hb3 => ?_)
    have n13 : ¬ b1 = b3 := by rintro rfl; simp [n12] at hb3
    have n31 : ¬ b3 = b1 := fun h => n13 h.symm
    have n23 : ¬ b2 = b3 := by rintro rfl; simp at hb3
    have n32 : ¬ b3 = b2 := fun h => n23 h.symm
    simp -implicitDefEqProofs [n12, n21, n13, n31, n23, n32, k1]
    refine CallK.with hsv (by simp [eSt, eM, k1]) ?_
    rw [serveA, e2, ho]
    simp -implicitDefEqProofs [n12, n21, n13, n31, n23, n32, eM]
    refine allocK.intro (fun b4 hb4 => ?_)
    have n14 : ¬ b1 = b4 := by rintro rfl; simp [n12, n13] at hb4
    have n41 : ¬ b4 = b1 := fun h => n14 h.symm
    have n24 : ¬ b2 = b4 := by rintro rfl; simp [n23] at hb4
    have n42 : ¬ b4 = b2 := fun h => n24 h.symm
    have n34 : ¬ b3 = b4 := by rintro rfl; simp at hb4
    have n43 : ¬ b4 = b3 := fun h => n34 h.symm
    simp -implicitDefEqProofs [n12, n21, n13, n31, n23, n32, n14, n41, n24, n42, n34, n43]
    refine allocK.intro (fun b5 hb5 => ?_)
    have n15 : ¬ b1 = b5 := by rintro rfl; simp [n12, n13, n14] at hb5
    have n51 : ¬ b5 = b1 := fun h => n15 h.symm
    have n25 : ¬ b2 = b5 := by rintro rfl; simp [n23, n24] at hb5
    have n52 : ¬ b5 = b2 := fun h => n25 h.symm
    have n35 : ¬ b3 = b5 := by rintro rfl; simp [n34] at hb5
    have n53 : ¬ b5 = b3 := fun h => n35 h.symm
    have n45 : ¬ b4 = b5 := by rintro rfl; simp at hb5
    have n54 : ¬ b5 = b4 := fun h => n45 h.symm
    simp -implicitDefEqProofs [n12, n21, n13, n31, n23, n32, n14, n41, n24, n42, n34, n43, n15, n51, n25, n52, n35, n53, n45, n54]
    intro _
    unfold behindS at hbe
    have fin3 := behind_book hok hr3
    have fin1 := behind_cells hok hr3
    have fin2 := fun hn => behind_other hok hr3 (v := v) hv hn
    unfold behindS at fin1 fin2 fin3
    generalize wroteS s q = w at *
    refine loopK.post (TlI w q v s b1 b2 b3 b5) (fun t => w.length - natOf (t 67)) (TlM w q v s b1 b2 b3 b5) ?_ ?_ ?_
    · exact ⟨0, by simp, by simp, by simp, by simp, by simp, by simp, by simp, by omega, by simp [n12, n21, n13, n31, n23, n32, n14, n41, n24, n42, n34, n43, n15, n51, n25, n52, n35, n53, n45, n54, eM, k1], by simp [n12, n21, n13, n31, n23, n32, n14, n41, n24, n42, n34, n43, n15, n51, n25, n52, n35, n53, n45, n54, eV], by simp [n12, n21, n13, n31, n23, n32, n14, n41, n24, n42, n34, n43, n15, n51, n25, n52, n35, n53, n45, n54, eSt], by simp [n12, n21, n13, n31, n23, n32, n14, n41, n24, n42, n34, n43, n15, n51, n25, n52, n35, n53, n45, n54, eSt]⟩
    · rintro t hh ⟨k, g4, g5, g7, g11, g65, g66, g67, hkl, e4, e5, e7, e11⟩
      by_cases hlt : k < w.length
      · have hlt' : (k : Int) < (w.length : Int) := by omega
        have hw : IntKind.i64.wrap ((k : Int) + 1) = ((k + 1 : Nat) : Int) := by rw [w64 (by omega) (by omega)]; omega
        obtain ⟨r, hx⟩ : ∃ r, w[k]? = some r := ⟨w[k], by simp [hlt]⟩
        have hst := foldl_step (s := s) hx
        have hrr := hwr r (List.mem_of_getElem? hx)
        have hokk := okT_list hok (l := w.take k) (fun r hr => hwr r (List.mem_of_mem_take hr))
        have hlen : (w.take k).length ≤ w.length := by rw [List.length_take]; omega
        generalize (w.take k).foldl applyS s = sk at *
        have hap := apply_spec sk r (hokk.ok (by omega)) (right_cell hrr).1 (hokk.news hrr)
        generalize applyS sk r = sk2 at *
        simp -implicitDefEqProofs [g65, g66, g67, hlt', hx, eRc]
        refine allocK.intro (fun b6 hb6 => ?_)
        have n16 : ¬ b1 = b6 := by rintro rfl; rw [e4] at hb6; simp at hb6
        have n26 : ¬ b2 = b6 := by rintro rfl; rw [e5] at hb6; simp at hb6
        have n36 : ¬ b3 = b6 := by rintro rfl; rw [e7] at hb6; simp at hb6
        have n56 : ¬ b5 = b6 := by rintro rfl; rw [e11] at hb6; simp at hb6
        have n65 : ¬ b6 = b5 := fun h => n56 h.symm
        rw [eSt] at e11
        simp -implicitDefEqProofs [g11, e11, n56, n65]
        refine CallK.with hap (by simp [eSt, eRc]) ?_
        simp -implicitDefEqProofs [g11, e11, n56, n65, g67, hw, eSt]
        exact ⟨⟨k + 1, by simp [g4], by simp [g5], by simp [g7], by simp [g11], by simp [g65], by simp [g66], by simp, by omega, by simp [n16, n15, e4], by simp [n26, n25, e5], by simp [n36, n35, e7], by rw [hst]; simp [eSt]⟩, by omega⟩
      · have hlt' : ¬ (k : Int) < (w.length : Int) := by omega
        rw [List.take_of_length_le (by omega)] at e11
        simp -implicitDefEqProofs [g66, g67, hlt']
        exact ⟨by simp [g4], by simp [g5], by simp [g7], by simp [g11], e4, e5, e7, e11⟩
    rintro t hh ⟨g4, g5, g7, g11, e4, e5, e7, e11⟩
    generalize w.foldl applyS s = t1 at *
    have hs1 := serve_spec q.to t1 (askM 0 q q.view) (hbe.ok (by omega)) hvq (by simp [askM]) (by simp [askM])
    have hs2 := serve_spec q.to t1 (askM 0 q v) (hbe.ok (by omega)) hv (by simp [askM]) (by simp [askM])
    have hs3 := serve_spec q.to s (askM 0 q v) (hok.ok (by omega)) hv (by simp [askM]) (by simp [askM])
    rw [ask_cells] at hs1 hs2 hs3
    have nc : q.book = [] := RightQ.noBook hr3 (by omega) (by omega)
    have fin := fin1 (by omega)
    have f2 : newsC (backC q t1 q.view).cells q.cells = [] := fin
    have f1 : newsE (backC q t1 q.view).book q.book = [] := by rw [nc]; rfl
    have f3 : ¬ v = q.view → sameM (backC q t1 v) (backC q s v) = true := fun hn => by unfold backC; rw [(fin2 hn).2]; exact samesM _
    generalize backC q t1 q.view = a at *
    generalize backC q t1 v = bb at *
    generalize backC q s v = cc at *
    have w2 : IntKind.i64.wrap 2 = 2 := by decide
    have w0 : IntKind.i64.wrap 0 = 0 := by decide
    rw [eM] at e4
    rw [eV] at e5
    rw [eSt] at e7 e11
    simp -implicitDefEqProofs [g4, e4, w2, w0, k1]
    refine allocK.intro (fun b6 hb6 => ?_)
    have n16 : ¬ b1 = b6 := by rintro rfl; rw [e4] at hb6; simp at hb6
    have n26 : ¬ b2 = b6 := by rintro rfl; rw [e5] at hb6; simp at hb6
    have n36 : ¬ b3 = b6 := by rintro rfl; rw [e7] at hb6; simp at hb6
    have n56 : ¬ b5 = b6 := by rintro rfl; rw [e11] at hb6; simp at hb6
    have n61 : ¬ b6 = b1 := fun h => n16 h.symm
    have n62 : ¬ b6 = b2 := fun h => n26 h.symm
    have n63 : ¬ b6 = b3 := fun h => n36 h.symm
    have n65 : ¬ b6 = b5 := fun h => n56 h.symm
    simp -implicitDefEqProofs [g4, g5, g7, g11, e4, e5, e7, e11, n16, n61, n26, n62, n36, n63, n56, n65, k1]
    refine CallK.with hs1 (by simp [eSt, eM, askM]) ?_
    simp -implicitDefEqProofs [eM]
    refine allocK.intro (fun b7 hb7 => ?_)
    have n17 : ¬ b1 = b7 := by rintro rfl; simp [n16, e4] at hb7
    have n27 : ¬ b2 = b7 := by rintro rfl; simp [n26, e5] at hb7
    have n37 : ¬ b3 = b7 := by rintro rfl; simp [n36, e7] at hb7
    have n57 : ¬ b5 = b7 := by rintro rfl; simp [n56, e11] at hb7
    have n67 : ¬ b6 = b7 := by rintro rfl; simp at hb7
    have n71 : ¬ b7 = b1 := fun h => n17 h.symm
    have n72 : ¬ b7 = b2 := fun h => n27 h.symm
    have n73 : ¬ b7 = b3 := fun h => n37 h.symm
    have n75 : ¬ b7 = b5 := fun h => n57 h.symm
    have n76 : ¬ b7 = b6 := fun h => n67 h.symm
    simp -implicitDefEqProofs [g4, g5, g7, g11, e4, e5, e7, e11, n16, n61, n26, n62, n36, n63, n56, n65, n17, n27, n37, n57, n67, n71, n72, n73, n75, n76]
    refine CallK.with (withinE_spec q.book a.book (by omega)) (by simp) ?_
    rw [f1]
    simp -implicitDefEqProofs [g4, g5, g7, g11, e4, e5, e7, e11, n16, n61, n26, n62, n36, n63, n56, n65, n17, n27, n37, n57, n67, n71, n72, n73, n75, n76]
    refine CallK.via (newsC_spec a.cells q.cells (by omega)) (by simp) ?_
    rintro _ ⟨tag, rfl⟩
    rw [f2]
    simp -implicitDefEqProofs [g4, g5, g7, g11, e4, e5, e7, e11, n16, n61, n26, n62, n36, n63, n56, n65, n17, n27, n37, n57, n67, n71, n72, n73, n75, n76]
    refine CallK.with hs2 (by simp [eSt, eM, askM]) ?_
    simp -implicitDefEqProofs [eM]
    refine allocK.intro (fun b8 hb8 => ?_)
    have n18 : ¬ b1 = b8 := by rintro rfl; simp [n16, n17, e4] at hb8
    have n28 : ¬ b2 = b8 := by rintro rfl; simp [n26, n27, e5] at hb8
    have n38 : ¬ b3 = b8 := by rintro rfl; simp [n36, n37, e7] at hb8
    have n58 : ¬ b5 = b8 := by rintro rfl; simp [n56, n57, e11] at hb8
    have n68 : ¬ b6 = b8 := by rintro rfl; simp [n67] at hb8
    have n81 : ¬ b8 = b1 := fun h => n18 h.symm
    have n82 : ¬ b8 = b2 := fun h => n28 h.symm
    have n83 : ¬ b8 = b3 := fun h => n38 h.symm
    have n86 : ¬ b8 = b6 := fun h => n68 h.symm
    simp -implicitDefEqProofs [g4, g5, g7, g11, e4, e5, e7, e11, n16, n61, n26, n62, n36, n63, n56, n65, n17, n27, n37, n57, n67, n71, n72, n73, n75, n76, n18, n28, n38, n68, n81, n82, n83, n86]
    refine CallK.with hs3 (by simp [eSt, eM, askM]) ?_
    simp -implicitDefEqProofs [eM]
    refine allocK.intro (fun b9 hb9 => ?_)
    have n19 : ¬ b1 = b9 := by rintro rfl; simp [n16, n17, n18, e4] at hb9
    have n29 : ¬ b2 = b9 := by rintro rfl; simp [n26, n27, n28, e5] at hb9
    have n89 : ¬ b8 = b9 := by rintro rfl; simp at hb9
    have n91 : ¬ b9 = b1 := fun h => n19 h.symm
    have n92 : ¬ b9 = b2 := fun h => n29 h.symm
    have n98 : ¬ b9 = b8 := fun h => n89 h.symm
    by_cases v1 : v.add = q.view.add
    · by_cases v2 : v.del = q.view.del
      · simp -implicitDefEqProofs [g4, g5, e4, e5, n16, n61, n26, n62, n36, n63, n56, n65, n17, n27, n37, n57, n67, n71, n72, n73, n75, n76, n18, n28, n38, n68, n81, n82, n83, n86, n19, n29, n89, n91, n92, n98, v1, v2]
      · have v2' : (v.del == q.view.del) = false := by simpa using v2
        have hne : ¬ v = q.view := fun h => v2 (by rw [h])
        simp -implicitDefEqProofs [g4, g5, e4, e5, n16, n61, n26, n62, n36, n63, n56, n65, n17, n27, n37, n57, n67, n71, n72, n73, n75, n76, n18, n28, n38, n68, n81, n82, n83, n86, n19, n29, n89, n91, n92, n98, v1, v2, v2']
        refine CallK.with (msg_same bb cc) (by simp [eM]) ?_
        rw [f3 hne]
        simp -implicitDefEqProofs
    · have v1' : (v.add == q.view.add) = false := by simpa using v1
      have hne : ¬ v = q.view := fun h => v1 (by rw [h])
      simp -implicitDefEqProofs [g4, g5, e4, e5, n16, n61, n26, n62, n36, n63, n56, n65, n17, n27, n37, n57, n67, n71, n72, n73, n75, n76, n18, n28, n38, n68, n81, n82, n83, n86, n19, n29, n89, n91, n92, n98, v1, v1']
      refine CallK.with (msg_same bb cc) (by simp [eM]) ?_
      rw [f3 hne]
      simp -implicitDefEqProofs
end Go.Proofs.YtjbbfiagijjdoaaGreat

/- Arguments of the laws on messages, read as plain data. No condition. -/
set_option linter.unusedSimpArgs false
set_option linter.unusedVariables false
set_option maxRecDepth 10000
namespace Go.Proofs.YtjbbfiagijjdoaaGreat
open Go Go.Rw Go.Proofs

theorem own : ownKnob Tryz.prog.godebug = none := by kernel_rfl
theorem laidOut : laidOutB Tryz.prog = true := by kernel_rfl

theorem bulkAll_sum {H : Type} : ∀ l : List (DataW H), Rows.uptoBulkAll l = (l.map Rows.uptoBulk).sum
  | [] => by simp [Rows.uptoBulkAll]
  | d :: l => by simp [Rows.uptoBulkAll, bulkAll_sum l]
theorem bulkOK {H : Type} : BulkOK (Rows.uptoBulk (H := H)) where
  one := fun d => by
    cases d with
    | lit l => cases l <;> simp [Rows.uptoBulk]
    | nil => simp [Rows.uptoBulk]
    | ptr d => simp [Rows.uptoBulk]
    | slice elems spare => simp [Rows.uptoBulk]
    | agg parts => simp [Rows.uptoBulk]
    | iface t d => simp [Rows.uptoBulk]
    | map entries => simp [Rows.uptoBulk]
    | held h => simp [Rows.uptoBulk]
  slice := fun e s => by simp only [Rows.uptoBulk, bulkAll_sum]; omega
  agg := fun p => by simp only [Rows.uptoBulk, bulkAll_sum]; omega
theorem bulk_of {H : Type} {l : List (DataW H)} (hk : Rows.uptoSmall H l = true) : Rows.uptoBulkAll l ≤ 1048576 := of_decide_eq_true hk

section
variable {H : Type} {enc0 : TypeId × Value → H} {W : World}
def inI (n : Int) : Prop := -9223372036854775808 ≤ n ∧ n ≤ 9223372036854775807
theorem reads_int : Reads Tryz.prog Rows.uptoBulk enc0 W 3 (fun n : Int => [eI n]) (fun n _ => inI n) := Reads.int Tryz.underlying3
theorem reads_f64 : Reads Tryz.prog Rows.uptoBulk enc0 W 44 (fun n : Nat => [AV.v (.float .f64 n)]) (fun n _ => n < 18446744073709551616) := Reads.float Tryz.underlying44
theorem reads_view : Reads Tryz.prog Rows.uptoBulk enc0 W 24 eV (fun v _ => inI v.add ∧ inI v.del) :=
  (Reads.struct bulkOK Tryz.underlying24 (by kernel_rfl) (.cons (sz := 1) rfl (by kernel_rfl) reads_int (.cons (sz := 1) rfl (by kernel_rfl) reads_int .nil)) (fun _ _ _ ⟨m, k, h1, h2⟩ _ => ⟨m, k, by omega, h2⟩)).weaken (β := PView)
    (fun p => ⟨p.1, p.2.1⟩) (fun p => rfl) (fun p n ⟨m, k, _, h1, m', k', _, h2, _⟩ => ⟨h1, h2⟩)
theorem reads_tag : Reads Tryz.prog Rows.uptoBulk enc0 W 43 eT (fun v _ => inI v.num ∧ inI v.node) :=
  (Reads.struct bulkOK Tryz.underlying43 (by kernel_rfl) (.cons (sz := 1) rfl (by kernel_rfl) reads_int (.cons (sz := 1) rfl (by kernel_rfl) reads_int .nil)) (fun _ _ _ ⟨m, k, h1, h2⟩ _ => ⟨m, k, by omega, h2⟩)).weaken (β := PTag)
    (fun p => ⟨p.1, p.2.1⟩) (fun p => rfl) (fun p n ⟨m, k, _, h1, m', k', _, h2, _⟩ => ⟨h1, h2⟩)
def goodC (c : PCell) (_ : Nat) : Prop := inI c.node ∧ inI c.change.add ∧ inI c.change.del
theorem reads_cell : Reads Tryz.prog Rows.uptoBulk enc0 W 48 eC goodC :=
  (Reads.struct bulkOK Tryz.underlying48 (by kernel_rfl) (.cons (sz := 1) rfl (by kernel_rfl) reads_int (.cons (sz := 2) rfl (by kernel_rfl) reads_view .nil)) (fun _ _ _ ⟨m, k, h1, h2⟩ _ => ⟨m, k, by omega, h2⟩)).weaken (β := PCell)
    (fun p => ⟨p.1, p.2.1⟩) (fun p => rfl) (fun p n ⟨m, k, _, h1, m', k', _, h2, _⟩ => ⟨h1, h2⟩)
def goodE (x : PEntry) (_ : Nat) : Prop := inI x.key ∧ (inI x.tag.num ∧ inI x.tag.node) ∧ x.value < 18446744073709551616
theorem reads_entry : Reads Tryz.prog Rows.uptoBulk enc0 W 46 eE goodE :=
  (Reads.struct bulkOK Tryz.underlying46 (by kernel_rfl) (.cons (sz := 1) rfl (by kernel_rfl) reads_int (.cons (sz := 2) rfl (by kernel_rfl) reads_tag (.cons (sz := 1) rfl (by kernel_rfl) reads_f64 .nil))) (fun _ _ _ ⟨m, k, h1, h2⟩ _ => ⟨m, k, by omega, h2⟩)).weaken (β := PEntry)
    (fun p => ⟨p.1, p.2.1, p.2.2.1⟩) (fun p => rfl) (fun p n ⟨m, k, _, h1, m', k', _, h2, m2, k2, _, h3, _⟩ => ⟨h1, h2, h3⟩)
theorem reads_cells : Reads Tryz.prog Rows.uptoBulk enc0 W 25 (fun l : List PCell => [AV.sl .no (eCs l)]) (fun l n => Goods goodC l n) :=
  Reads.slice (sz := 3) bulkOK Tryz.underlying25 (by kernel_rfl) (by omega) reads_cell (by intro a x hx; simp [eC] at hx; rcases hx with rfl | rfl | rfl <;> rfl)
theorem reads_entries : Reads Tryz.prog Rows.uptoBulk enc0 W 26 (fun l : List PEntry => [AV.sl .no (eEs l)]) (fun l n => Goods goodE l n) :=
  Reads.slice (sz := 4) bulkOK Tryz.underlying26 (by kernel_rfl) (by omega) reads_entry (by intro a x hx; simp [eE] at hx; rcases hx with rfl | rfl | rfl | rfl <;> rfl)
structure GoodM (m : PMsg) (n : Nat) : Prop where
  kind : inI m.kind
  frm : inI m.frm
  to : inI m.to
  inc : inI m.inc
  seq : inI m.seq
  view : inI m.view.add ∧ inI m.view.del
  lists : ∃ a b, a + b ≤ n ∧ Goods goodC m.cells a ∧ Goods goodE m.book b
set_option maxHeartbeats 2000000 in
theorem reads_msg : Reads Tryz.prog Rows.uptoBulk enc0 W 28 eM GoodM :=
  (Reads.struct bulkOK Tryz.underlying28 (by kernel_rfl) (.cons (sz := 1) rfl (by kernel_rfl) reads_int (.cons (sz := 1) rfl (by kernel_rfl) reads_int (.cons (sz := 1) rfl (by kernel_rfl) reads_int (.cons (sz := 1) rfl (by kernel_rfl) reads_int (.cons (sz := 1) rfl (by kernel_rfl) reads_int
    (.cons (sz := 2) rfl (by kernel_rfl) reads_view (.cons (sz := 1) rfl (by kernel_rfl) reads_cells (.cons (sz := 1) rfl (by kernel_rfl) reads_entries .nil)))))))) (fun _ _ _ ⟨m, k, h1, h2⟩ _ => ⟨m, k, by omega, h2⟩)).weaken (β := PMsg)
    (fun p => ⟨p.1, p.2.1, p.2.2.1, p.2.2.2.1, p.2.2.2.2.1, p.2.2.2.2.2.1, p.2.2.2.2.2.2.1, p.2.2.2.2.2.2.2.1⟩) (fun p => rfl)
    (fun p n ⟨_, _, l1, h1, _, _, l2, h2, _, _, l3, h3, _, _, l4, h4, _, _, l5, h5, _, _, l6, h6, _, _, l7, h7, _, _, l8, h8, _⟩ => ⟨h1, h2, h3, h4, h5, h6, _, _, by omega, h7, h8⟩)
theorem GoodM.lens {m : PMsg} {n : Nat} (h : GoodM m n) : m.cells.length + m.book.length ≤ n := by
  obtain ⟨a, b, h1, h2, h3⟩ := h.lists
  have := h2.length; have := h3.length
  omega
theorem GoodM.fit {m : PMsg} {n : Nat} (h : GoodM m n) : ∀ x ∈ m.book, x.value < 18446744073709551616 := by
  obtain ⟨a, b, h1, h2, h3⟩ := h.lists
  intro x hx
  obtain ⟨_, _, h4⟩ := h3.mem x hx
  exact h4.2.2

def zeroMsg : Value := .agg #[.int .i64 0, .int .i64 0, .int .i64 0, .int .i64 0, .int .i64 0, .int .i64 0, .int .i64 0, .slice none 0 0, .slice none 0 0]
def z0 : DataW H := .lit (.int .i64 0)
def zeroMsgD : DataW H := .agg [z0, z0, z0, z0, z0, .agg [z0, z0], .nil, .nil]
theorem reps_two {I : Imm} {x1 x2 : AV} {y1 y2 : Value} (h1 : Rep I x1 y1) (h2 : Rep I x2 y2) : Reps I [x1, x2] [y1, y2] := cell_reps (reps_one h1) [x2] [y2] (reps_one h2)
theorem reps_three {I : Imm} {x1 x2 x3 : AV} {y1 y2 y3 : Value} (h1 : Rep I x1 y1) (h2 : Rep I x2 y2) (h3 : Rep I x3 y3) : Reps I [x1, x2, x3] [y1, y2, y3] := cell_reps (reps_one h1) [x2, x3] [y2, y3] (reps_two h2 h3)
/-- an argument that is a struct -/
theorem arg_agg {t : TypeId} {fs : Array Field} {α : Type} {enc : α → List AV} {good : α → Nat → Prop} (hr : Reads Tryz.prog Rows.uptoBulk enc0 W t enc good) (ht : Tryz.prog.underlying t = some (.struct fs)) {v : Value} {d : DataW H} {p : List MemPlace} {base : Nat}
    (hok : Value.okWide Tryz.prog W .any base t v) (h : DataW.Trod enc0 Tryz.prog W 0 (fun _ => true) true t v d p) (hb : Rows.uptoBulk d ≤ 1048576) : ∃ a, Rep (allI W) (.agg (enc a)) v ∧ good a (Rows.uptoBulk d) := by
  simp only [Value.okWide, ht] at hok
  obtain ⟨cs, rfl, _, _⟩ := hok
  obtain ⟨fuel, hf⟩ := h
  obtain ⟨a, h1, h2⟩ := hr fuel _ _ hf (show Rows.uptoBulk d ≤ 281474976710656 by omega)
  refine ⟨a, ?_, h2⟩
  have : cs = (Value.agg cs).cells.toList.toArray := by simp [Value.cells]
  conv => rhs; rw [this]
  exact .agg _ h1.1 h1.2
/-- an argument of one cell -/
theorem arg_one {t : TypeId} {α : Type} {enc : α → AV} {good : α → Nat → Prop} (hr : Reads Tryz.prog Rows.uptoBulk enc0 W t (fun a => [enc a]) good) {v : Value} {d : DataW H} {p : List MemPlace}
    (hv : v.cells.toList = [v]) (h : DataW.Trod enc0 Tryz.prog W 0 (fun _ => true) true t v d p) (hb : Rows.uptoBulk d ≤ 1048576) : ∃ a, Rep (allI W) (enc a) v ∧ good a (Rows.uptoBulk d) := by
  obtain ⟨fuel, hf⟩ := h
  obtain ⟨a, h1, h2⟩ := hr fuel _ _ hf (show Rows.uptoBulk d ≤ 281474976710656 by omega)
  rw [hv] at h1
  exact ⟨a, h1.2 0 _ _ rfl rfl, h2⟩
/-- a value that is no struct is one cell -/
theorem one_cell {t : TypeId} {u : TypeDesc} (ht : Tryz.prog.underlying t = some u) (h1 : ∀ fs, u ≠ .struct fs) (h2 : ∀ n e, u ≠ .array n e) {v : Value} {base : Nat} (hok : Value.okWide Tryz.prog W .any base t v) : v.cells.toList = [v] := by
  unfold Value.okWide at hok
  rw [ht] at hok
  have hcell : Cell.okWide Tryz.prog W .any base t v := by
    cases u <;> first | exact hok | exact absurd rfl (h1 _) | exact absurd rfl (h2 _ _)
  cases v with
  | agg cs =>
    unfold Cell.okWide at hcell
    rw [ht] at hcell
    cases u <;> simp [Cell.ok, ht] at hcell
  | _ => rfl
end
end Go.Proofs.YtjbbfiagijjdoaaGreat

/- Arguments of the laws on records, read as plain data. No condition. -/
set_option linter.unusedSimpArgs false
set_option linter.unusedVariables false
set_option maxRecDepth 10000
namespace Go.Proofs.YtjbbfiagijjdoaaGreat
open Go Go.Rw Go.Proofs

section
variable {H : Type} {enc0 : TypeId × Value → H} {W : World}
def goodR (r : PRec) (_ : Nat) : Prop := inI r.kind ∧ (inI r.view.add ∧ inI r.view.del) ∧ goodC r.cell 0 ∧ goodE r.entry 0 ∧ inI r.n
theorem goodR.fit {r : PRec} {n : Nat} (h : goodR r n) : fitR r := h.2.2.2.1.2.2
set_option maxHeartbeats 2000000 in
theorem reads_rec : Reads Tryz.prog Rows.uptoBulk enc0 W 66 eRc goodR :=
  (Reads.struct bulkOK Tryz.underlying66 (by kernel_rfl) (.cons (sz := 1) rfl (by kernel_rfl) reads_int (.cons (sz := 2) rfl (by kernel_rfl) reads_view (.cons (sz := 3) rfl (by kernel_rfl) reads_cell (.cons (sz := 4) rfl (by kernel_rfl) reads_entry (.cons (sz := 1) rfl (by kernel_rfl) reads_int .nil))))) (fun _ _ _ ⟨m, k, h1, h2⟩ _ => ⟨m, k, by omega, h2⟩)).weaken (β := PRec)
    (fun p => ⟨p.1, p.2.1, p.2.2.1, p.2.2.2.1, p.2.2.2.2.1⟩) (fun p => rfl)
    (fun p n ⟨_, _, _, h1, _, _, _, h2, _, _, _, h3, _, _, _, h4, _, _, _, h5, _⟩ => ⟨h1, h2, h3, h4, h5⟩)
theorem reads_recs : Reads Tryz.prog Rows.uptoBulk enc0 W 22 (fun l : List PRec => [AV.sl .no (eRs l)]) (fun l n => Goods goodR l n) :=
  Reads.slice (sz := 11) bulkOK Tryz.underlying22 (by kernel_rfl) (by omega) reads_rec (by intro a x hx; simp [eRc] at hx; rcases hx with rfl | rfl | rfl | rfl | rfl | rfl | rfl | rfl | rfl | rfl | rfl <;> rfl)
theorem goods_fits {l : List PRec} {n : Nat} (h : Goods goodR l n) : ∀ r ∈ l, fitR r := fun r hr => by
  obtain ⟨_, _, h2⟩ := h.mem r hr
  exact h2.fit
def zeroRec : Value := .agg #[.int .i64 0, .int .i64 0, .int .i64 0, .int .i64 0, .int .i64 0, .int .i64 0, .int .i64 0, .int .i64 0, .int .i64 0, .float .f64 0, .int .i64 0]
def zeroRecD : DataW H := .agg [z0, .agg [z0, z0], .agg [z0, .agg [z0, z0]], .agg [z0, .agg [z0, z0], .lit (.float .f64 0)], z0]
end
end Go.Proofs.YtjbbfiagijjdoaaGreat

/- The law ReplicaKeeps, walked. No condition. -/
set_option linter.unusedSimpArgs false
set_option linter.unusedVariables false
set_option maxRecDepth 10000
namespace Go.Proofs.YtjbbfiagijjdoaaGreat
open Go Go.Rw Go.Proofs
-- a goal is never to be run by the elaborator
attribute [local irreducible] awp aops aop aopsE aeff

theorem CallQ.take {P : Program} {g : FuncId} {args args' : List AV} {K R : AV → Prop} {x : AV} (h : ASpec P g args' R) (ha : args = args') (hr : ∀ r, R r → dead1 r = x) (hk : K x) : @CallQ P g args ⟨K⟩ := by
  subst ha
  exact .of h hr hk
def KpI (w : List PRec) (q : PMsg) (me : Int) (s : PState) (a : PMsg) (b1 b2 b3 b4 : Nat) (t : Nat → AV) (h : Nat → Option (List AV)) : Prop := ∃ k : Nat, t 0 = eI me ∧ t 5 = .ptr b1 0 ∧ t 7 = .ptr b2 0 ∧ t 9 = .ptr b3 0 ∧ t 11 = .ptr b4 0 ∧ t 51 = .sl .no (eRs w) ∧ t 52 = eI w.length ∧ t 53 = eI k ∧ k ≤ w.length ∧ h b1 = some (eM q) ∧ h b2 = some (eSt s) ∧ h b3 = some (eM a) ∧ h b4 = some (eSt ((w.take k).foldl applyS s))
def KpM (w : List PRec) (q : PMsg) (me : Int) (s : PState) (a : PMsg) (b1 b2 b3 b4 : Nat) (t : Nat → AV) (h : Nat → Option (List AV)) : Prop := t 0 = eI me ∧ t 5 = .ptr b1 0 ∧ t 7 = .ptr b2 0 ∧ t 9 = .ptr b3 0 ∧ t 11 = .ptr b4 0 ∧ h b1 = some (eM q) ∧ h b2 = some (eSt s) ∧ h b3 = some (eM a) ∧ h b4 = some (eSt (w.foldl applyS s))
theorem keeps13_law (me : Int) (l : List PRec) (q : PMsg) (hf : ∀ r ∈ l, fitR r) (hl : l.length ≤ 1048576) : ASpec Tryz.prog 17 [eI me, .sl .no (eRs l), .agg (eM q)] (· = .v (.bool true)) := by
  refine ASpec.of_awp Tryz.func17 (by kernel_rfl) rfl (by rw [Tryz.results17]) Tryz.ntmps17 ?_
  simp -implicitDefEqProofs [eM]
  refine allocK.intro (fun b1 hb1 => ?_)
  simp -implicitDefEqProofs
  refine CallK.eq alive13_spec ?_
  simp -implicitDefEqProofs
  intro _
  by_cases h60 : 60 < l.length
  · have h60' : (60 : Int) < (l.length : Int) := by omega
    simp -implicitDefEqProofs [h60, h60']
  have h60' : ¬ (60 : Int) < (l.length : Int) := by omega
  simp -implicitDefEqProofs [h60, h60']
  refine CallK.with (right13_spec me l q hf (by omega)) (by simp [eM]) ?_
  cases hr : (l.all rightR && (decide (0 ≤ me) && decide (me < 6) && rightM q))
  · simp -implicitDefEqProofs
  obtain ⟨hr1, hr2, hr3⟩ := right13_of hr
  simp -implicitDefEqProofs
  have hfold := fold_spec v7 l rightV_v7 hr1 (by omega)
  have hok := okT_fold rightV_v7 hr1 l.length (Nat.le_refl _)
  rw [List.take_length] at hok
  generalize foldS v7 l = s at *
  have R := rightM_of hr3
  have hsv := serve_spec me s q (hok.ok (by omega)) R.view (by have := R.clen; omega) (by have := R.blen; omega)
  refine CallK.with hfold (by simp [eV, v7]) ?_
  simp -implicitDefEqProofs [eSt]
  refine allocK.intro (fun b2 hb2 => ?_)
  have n12 : ¬ b1 = b2 := by rintro rfl; simp at hb2
  have n21 : ¬ b2 = b1 := fun h => n12 h.symm
  simp -implicitDefEqProofs [n12, n21]
  refine CallK.with hsv (by simp [eSt, eM]) ?_
  rw [serveA]
  simp -implicitDefEqProofs [n12, n21, eM]
  refine allocK.intro (fun b3 hb3 => ?_)
  have n13 : ¬ b1 = b3 := by rintro rfl; simp [n12] at hb3
  have n31 : ¬ b3 = b1 := fun h => n13 h.symm
  have n23 : ¬ b2 = b3 := by rintro rfl; simp at hb3
  have n32 : ¬ b3 = b2 := fun h => n23 h.symm
  have hk := R.kind.1
  by_cases hs0 : ¬ servable me q = true
  · have e1 : recsS me s q = [] := by rw [recsS, if_neg hs0]
    have e2 : answerS me s q = zM := by rw [answerS, if_neg hs0]
    have e3 : servable me q = false := by simpa using hs0
    rw [e1, e2, e3]
    simp -implicitDefEqProofs [n12, n21, n13, n31, n23, n32, zM]
    refine CallK.with (msg_same zM zM) (by simp [eM, zM]) ?_
    rw [samesM]
    simp -implicitDefEqProofs
  have hs : servable me q = true := by simpa using hs0
  have hk4 : q.kind ≤ 4 := by simp [servable] at hs; exact hs.2.2
  have e1 : recsS me s q = wroteS s q := by rw [recsS, if_pos hs]
  have e2 : answerS me s q = tellS me s q := by rw [answerS, if_pos hs]
  have f1 := tell_right hok hr3 hs
  have f2 := tell_answers (s := s) hs
  have f3 := tell_answers (s := behindS s q) hs
  have f4 := behind_nums (s := s) (q := q)
  have f5 := behind_within (s := s) (q := q)
  have f6 := behind_mark (s := s) (q := q)
  have f7 := behind_book hok hr3 (by omega)
  have f8 := behind_cells hok hr3 (by omega)
  have f9 := behind_quiet hok hr3 hk4
  have hwr := wrote_right (s := s) hr3
  have hwl := wrote_len s q
  have hcl := R.clen
  have hbl := R.blen
  have hbe := behind_ok hok hr3
  have hvq := R.view
  have hsv2 := serve_spec me (behindS s q) q (hbe.ok (by omega)) R.view (by omega) (by omega)
  rw [serveA, recsS, answerS, if_pos hs, if_pos hs, f9, hs] at hsv2
  rw [e1, e2, hs]
  unfold behindS at *
  generalize tellS me s q = a at *
  generalize tellS me ((wroteS s q).foldl applyS s) q = bb at *
  generalize wroteS s q = w at *
  simp -implicitDefEqProofs [n12, n21, n13, n31, n23, n32]
  refine allocK.intro (fun b4 hb4 => ?_)
  have n14 : ¬ b1 = b4 := by rintro rfl; simp [n12, n13] at hb4
  have n41 : ¬ b4 = b1 := fun h => n14 h.symm
  have n24 : ¬ b2 = b4 := by rintro rfl; simp [n23] at hb4
  have n42 : ¬ b4 = b2 := fun h => n24 h.symm
  have n34 : ¬ b3 = b4 := by rintro rfl; simp at hb4
  have n43 : ¬ b4 = b3 := fun h => n34 h.symm
  simp -implicitDefEqProofs [n12, n21, n13, n31, n23, n32, n14, n41, n24, n42, n34, n43]
  intro _
  refine loopK.post (KpI w q me s a b1 b2 b3 b4) (fun t => w.length - natOf (t 53)) (KpM w q me s a b1 b2 b3 b4) ?_ ?_ ?_
  · exact ⟨0, by simp, by simp, by simp, by simp, by simp, by simp, by simp, by simp, by omega, by simp [n12, n21, n13, n31, n23, n32, n14, n41, n24, n42, n34, n43, eM], by simp [n12, n21, n13, n31, n23, n32, n14, n41, n24, n42, n34, n43, eSt], by simp [n12, n21, n13, n31, n23, n32, n14, n41, n24, n42, n34, n43, eM], by simp [n12, n21, n13, n31, n23, n32, n14, n41, n24, n42, n34, n43, eSt]⟩
  · rintro t hh ⟨k, g0, g5, g7, g9, g11, g51, g52, g53, hkl, c1, c2, c3, c4⟩
    by_cases hlt : k < w.length
    · have hlt' : (k : Int) < (w.length : Int) := by omega
      have hw : IntKind.i64.wrap ((k : Int) + 1) = ((k + 1 : Nat) : Int) := by rw [w64 (by omega) (by omega)]; omega
      obtain ⟨r, hx⟩ : ∃ r, w[k]? = some r := ⟨w[k], by simp [hlt]⟩
      have hst := foldl_step (s := s) hx
      have hrr := hwr r (List.mem_of_getElem? hx)
      have hlr := logright_spec r
      rw [hrr] at hlr
      have hokk := okT_list hok (l := w.take k) (fun r hr => hwr r (List.mem_of_mem_take hr))
      have hlen : (w.take k).length ≤ w.length := by rw [List.length_take]; omega
      generalize (w.take k).foldl applyS s = sk at *
      have hap := apply_spec sk r (hokk.ok (by omega)) (right_cell hrr).1 (hokk.news hrr)
      generalize applyS sk r = sk2 at *
      simp -implicitDefEqProofs [g51, g52, g53, hlt', hx, eRc]
      refine allocK.intro (fun b6 hb6 => ?_)
      have n16 : ¬ b1 = b6 := by rintro rfl; rw [c1] at hb6; simp at hb6
      have n26 : ¬ b2 = b6 := by rintro rfl; rw [c2] at hb6; simp at hb6
      have n36 : ¬ b3 = b6 := by rintro rfl; rw [c3] at hb6; simp at hb6
      have n46 : ¬ b4 = b6 := by rintro rfl; rw [c4] at hb6; simp at hb6
      have n64 : ¬ b6 = b4 := fun h => n46 h.symm
      rw [eSt] at c4
      simp -implicitDefEqProofs [g11, c4, n46, n64]
      refine CallK.with hlr (by simp [eRc]) ?_
      simp -implicitDefEqProofs [g11, c4, n46, n64]
      refine CallK.with hap (by simp [eSt, eRc]) ?_
      simp -implicitDefEqProofs [g11, c4, n46, n64, g53, hw, eSt]
      exact ⟨⟨k + 1, by simp [g0], by simp [g5], by simp [g7], by simp [g9], by simp [g11], by simp [g51], by simp [g52], by simp, by omega, by simp [n16, n14, c1], by simp [n26, n24, c2], by simp [n36, n34, c3], by rw [hst]; simp [eSt]⟩, by omega⟩
    · have hlt' : ¬ (k : Int) < (w.length : Int) := by omega
      rw [List.take_of_length_le (by omega)] at c4
      simp -implicitDefEqProofs [g52, g53, hlt']
      exact ⟨by simp [g0], by simp [g5], by simp [g7], by simp [g9], by simp [g11], c1, c2, c3, c4⟩
  rintro t hh ⟨g0, g5, g7, g9, g11, c1, c2, c3, c4⟩
  generalize w.foldl applyS s = t1 at *
  have hbk := book_spec t1 q.view (hbe.ok (by omega)) hvq
  have hce := cells_spec t1 q.view (hbe.ok (by omega)) hvq
  have hrh := hbe.rh
  rw [eM] at c1 c3
  rw [eSt] at c2 c4
  simp -implicitDefEqProofs [g0, g5, g7, g9, g11, c1, c2, c3, c4]
  refine CallK.with hsv2 (by simp [eSt, eM]) ?_
  simp -implicitDefEqProofs [g0, g5, g7, g9, g11, c1, c2, c3, c4, eM]
  refine allocK.intro (fun b6 hb6 => ?_)
  have n16 : ¬ b1 = b6 := by rintro rfl; rw [c1] at hb6; simp at hb6
  have n26 : ¬ b2 = b6 := by rintro rfl; rw [c2] at hb6; simp at hb6
  have n36 : ¬ b3 = b6 := by rintro rfl; rw [c3] at hb6; simp at hb6
  have n46 : ¬ b4 = b6 := by rintro rfl; rw [c4] at hb6; simp at hb6
  have n61 : ¬ b6 = b1 := fun h => n16 h.symm
  have n62 : ¬ b6 = b2 := fun h => n26 h.symm
  have n63 : ¬ b6 = b3 := fun h => n36 h.symm
  have n64 : ¬ b6 = b4 := fun h => n46 h.symm
  simp -implicitDefEqProofs [g0, g5, g7, g9, g11, c1, c2, c3, c4, n16, n61, n26, n62, n36, n63, n46, n64]
  refine CallK.with (msg_right a) (by simp [eM]) ?_
  rw [f1]
  simp -implicitDefEqProofs [g0, g5, g7, g9, g11, c1, c2, c3, c4, n16, n61, n26, n62, n36, n63, n46, n64]
  refine CallK.with (msg_answers q a) (by simp [eM]) ?_
  rw [f2]
  simp -implicitDefEqProofs [g0, g5, g7, g9, g11, c1, c2, c3, c4, n16, n61, n26, n62, n36, n63, n46, n64]
  refine CallK.with (msg_answers q bb) (by simp [eM]) ?_
  rw [f3]
  simp -implicitDefEqProofs [g0, g5, g7, g9, g11, c1, c2, c3, c4, n16, n61, n26, n62, n36, n63, n46, n64, f4.1, f4.2]
  refine CallK.with (within_spec s.held t1.held hok.rh hrh) (by simp [eV]) ?_
  rw [f5]
  simp -implicitDefEqProofs [g0, g5, g7, g9, g11, c1, c2, c3, c4, n16, n61, n26, n62, n36, n63, n46, n64]
  have hlast : ∀ (X : Prop), X → X := fun X h => h
  by_cases k4 : q.kind = 4
  · simp -implicitDefEqProofs [g0, g5, g7, g9, g11, c1, c2, c3, c4, n16, n61, n26, n62, n36, n63, n46, n64, k4]
    refine CallK.with (within_spec t1.held q.view hrh hvq) (by simp [eV]) ?_
    cases hw : withinV t1.held q.view
    · simp -implicitDefEqProofs [g0, g5, g7, g9, g11, c1, c2, c3, c4, n16, n61, n26, n62, n36, n63, n46, n64, k4]
      refine regionK.intro 18 follows_mixed (by kernel_rfl) ?_
      simp -implicitDefEqProofs [g0, g5, g7, g9, g11, c1, c2, c3, c4, n16, n61, n26, n62, n36, n63, n46, n64, k4]
      refine CallQ.take (x := .sl .no (eEs (bookS t1 q.view))) hbk (by simp [eSt, eV]) (by rintro _ ⟨tag, rfl⟩; rfl) ?_
      simp -implicitDefEqProofs [g0, g5, g7, g9, g11, c1, c2, c3, c4, n16, n61, n26, n62, n36, n63, n46, n64]
      refine CallQ.with (withinE_spec q.book (bookS t1 q.view) (by omega)) (by simp) ?_
      rw [f7]
      simp -implicitDefEqProofs [g0, g5, g7, g9, g11, c1, c2, c3, c4, n16, n61, n26, n62, n36, n63, n46, n64]
      refine CallQ.take (x := .sl .no (eCs (cellsS t1 q.view))) hce (by simp [eSt, eV]) (by rintro _ ⟨tag, rfl⟩; rfl) ?_
      simp -implicitDefEqProofs [g0, g5, g7, g9, g11, c1, c2, c3, c4, n16, n61, n26, n62, n36, n63, n46, n64]
      refine CallQ.take (x := .sl .no (eCs (newsC (cellsS t1 q.view) q.cells))) (newsC_spec (cellsS t1 q.view) q.cells (by omega)) (by simp) (by rintro _ ⟨tag, rfl⟩; rfl) ?_
      rw [f8]
      simp -implicitDefEqProofs [g0, g5, g7, g9, g11, c1, c2, c3, c4, n16, n61, n26, n62, n36, n63, n46, n64]
    · have hh := f6 k4 hw
      have h1 : t1.held.add = q.view.add := by rw [hh]
      have h2 : t1.held.del = q.view.del := by rw [hh]
      simp -implicitDefEqProofs [g0, g5, g7, g9, g11, c1, c2, c3, c4, n16, n61, n26, n62, n36, n63, n46, n64, k4, h1, h2]
      refine regionK.intro 18 follows_mixed (by kernel_rfl) ?_
      simp -implicitDefEqProofs [g0, g5, g7, g9, g11, c1, c2, c3, c4, n16, n61, n26, n62, n36, n63, n46, n64, k4, h1, h2]
      refine CallQ.take (x := .sl .no (eEs (bookS t1 q.view))) hbk (by simp [eSt, eV, h1, h2]) (by rintro _ ⟨tag, rfl⟩; rfl) ?_
      simp -implicitDefEqProofs [g0, g5, g7, g9, g11, c1, c2, c3, c4, n16, n61, n26, n62, n36, n63, n46, n64, h1, h2]
      refine CallQ.with (withinE_spec q.book (bookS t1 q.view) (by omega)) (by simp) ?_
      rw [f7]
      simp -implicitDefEqProofs [g0, g5, g7, g9, g11, c1, c2, c3, c4, n16, n61, n26, n62, n36, n63, n46, n64, h1, h2]
      refine CallQ.take (x := .sl .no (eCs (cellsS t1 q.view))) hce (by simp [eSt, eV, h1, h2]) (by rintro _ ⟨tag, rfl⟩; rfl) ?_
      simp -implicitDefEqProofs [g0, g5, g7, g9, g11, c1, c2, c3, c4, n16, n61, n26, n62, n36, n63, n46, n64, h1, h2]
      refine CallQ.take (x := .sl .no (eCs (newsC (cellsS t1 q.view) q.cells))) (newsC_spec (cellsS t1 q.view) q.cells (by omega)) (by simp) (by rintro _ ⟨tag, rfl⟩; rfl) ?_
      rw [f8]
      simp -implicitDefEqProofs [g0, g5, g7, g9, g11, c1, c2, c3, c4, n16, n61, n26, n62, n36, n63, n46, n64, h1, h2]
  · simp -implicitDefEqProofs [g0, g5, g7, g9, g11, c1, c2, c3, c4, n16, n61, n26, n62, n36, n63, n46, n64, k4]
    refine regionK.intro 18 follows_mixed (by kernel_rfl) ?_
    simp -implicitDefEqProofs [g0, g5, g7, g9, g11, c1, c2, c3, c4, n16, n61, n26, n62, n36, n63, n46, n64, k4]
    refine CallQ.take (x := .sl .no (eEs (bookS t1 q.view))) hbk (by simp [eSt, eV]) (by rintro _ ⟨tag, rfl⟩; rfl) ?_
    simp -implicitDefEqProofs [g0, g5, g7, g9, g11, c1, c2, c3, c4, n16, n61, n26, n62, n36, n63, n46, n64]
    refine CallQ.with (withinE_spec q.book (bookS t1 q.view) (by omega)) (by simp) ?_
    rw [f7]
    simp -implicitDefEqProofs [g0, g5, g7, g9, g11, c1, c2, c3, c4, n16, n61, n26, n62, n36, n63, n46, n64]
    refine CallQ.take (x := .sl .no (eCs (cellsS t1 q.view))) hce (by simp [eSt, eV]) (by rintro _ ⟨tag, rfl⟩; rfl) ?_
    simp -implicitDefEqProofs [g0, g5, g7, g9, g11, c1, c2, c3, c4, n16, n61, n26, n62, n36, n63, n46, n64]
    refine CallQ.take (x := .sl .no (eCs (newsC (cellsS t1 q.view) q.cells))) (newsC_spec (cellsS t1 q.view) q.cells (by omega)) (by simp) (by rintro _ ⟨tag, rfl⟩; rfl) ?_
    rw [f8]
    simp -implicitDefEqProofs [g0, g5, g7, g9, g11, c1, c2, c3, c4, n16, n61, n26, n62, n36, n63, n46, n64]
end Go.Proofs.YtjbbfiagijjdoaaGreat

/- Contracts: lists of what is told of views (api.ViewBook) that are the same. Printed by sort/gen.py. No condition. -/
set_option linter.unusedSimpArgs false
set_option linter.unusedVariables false
set_option maxRecDepth 10000
namespace Go.Proofs.YtjbbfiagijjdoaaGreat
open Go Go.Rw Go.Proofs
-- a goal is never to be run by the elaborator
attribute [local irreducible] awp aops aop aopsE aeff

def sameVB (x y : PVB) : Bool := decide (x.view = y.view) && sameEs x.book y.book
def sameVBs : List PVB → List PVB → Bool
  | [], [] => true
  | x :: l, y :: m => sameVB x y && sameVBs l m
  | _, _ => false
theorem sameVBs_len : ∀ {a b : List PVB}, a.length ≠ b.length → sameVBs a b = false
  | [], [], h => absurd rfl h
  | [], _ :: _, _ => rfl
  | _ :: _, [], _ => rfl
  | x :: a, y :: b, h => by
    have := sameVBs_len (a := a) (b := b) (by simp at h; exact h)
    simp [sameVBs, this]
theorem sameVB_spec (x y : PVB) : ASpec Tryz.prog 122 [.agg (eVB x), .agg (eVB y)] (· = .v (.bool (sameVB x y))) := by
  refine ASpec.of_awp Tryz.func122 (by kernel_rfl) rfl (by rw [Tryz.results122]) Tryz.ntmps122 ?_
  simp -implicitDefEqProofs [eVB]
  refine allocK.intro (fun b hb => ?_)
  simp -implicitDefEqProofs
  refine allocK.intro (fun b2 hb2 => ?_)
  have hbb : ¬ b = b2 := by rintro rfl; simp at hb2
  have hbb' : ¬ b2 = b := fun h => hbb h.symm
  by_cases h1 : x.view.add = y.view.add
  · by_cases h2 : x.view.del = y.view.del
    · have hv : x.view = y.view := by
        obtain ⟨⟨p, q⟩, _⟩ := x
        obtain ⟨⟨p2, q2⟩, _⟩ := y
        simp at h1 h2
        simp [h1, h2]
      simp -implicitDefEqProofs [hbb, hbb', h1, h2]
      refine CallK.with (book_same x.book y.book) rfl ?_
      simp -implicitDefEqProofs [sameVB, hv]
    · have hv : ¬ x.view = y.view := fun h => h2 (by rw [h])
      have h2b : (x.view.del == y.view.del) = false := by simpa using h2
      simp -implicitDefEqProofs [hbb, hbb', h1, h2, h2b, sameVB, hv]
  · have hv : ¬ x.view = y.view := fun h => h1 (by rw [h])
    have h1b : (x.view.add == y.view.add) = false := by simpa using h1
    simp -implicitDefEqProofs [hbb, hbb', h1, h1b, sameVB, hv]
def EqVBI (a b : List PVB) (t : Nat → AV) (_ : Nat → Option (List AV)) : Prop := ∃ k : Nat, t 15 = .sl .no (rowsVB a) ∧ t 1 = .sl .no (rowsVB b) ∧ t 2 = .fn 122 [] ∧ t 16 = .v (.int .i64 a.length) ∧ t 17 = .v (.int .i64 k) ∧ k ≤ a.length ∧ sameVBs (a.drop k) (b.drop k) = sameVBs a b
theorem equalfVB_spec (a b : List PVB) : ASpec Tryz.prog 121 [.sl .no (rowsVB a), .sl .no (rowsVB b), .fn 122 []] (· = .v (.bool (sameVBs a b))) := by
  refine ASpec.of_awp Tryz.func121 (by kernel_rfl) rfl (by rw [Tryz.results121]) Tryz.ntmps121 ?_
  simp -implicitDefEqProofs
  intro h1 h2
  refine branch_dec (fun hb => ?_) (fun hb => ?_)
  · have hl : a.length = b.length := by omega
    simp -implicitDefEqProofs
    intro _
    refine loopK.intro (EqVBI a b) (fun t => a.length - natOf (t 17)) ?_ ?_
    · exact ⟨0, by simp, by simp, by simp, by simp, by simp, by omega, by simp⟩
    rintro t hh ⟨k, g15, g1, g2, g16, g17, hk, he⟩
    simp -implicitDefEqProofs [g16, g17]
    refine branch_dec (fun hlt => ?_) (fun hlt => ?_)
    · have hlt : k < a.length := by omega
      have hlt2 : k < b.length := by omega
      obtain ⟨x, hx⟩ : ∃ x, a[k]? = some x := ⟨a[k], by simp [hlt]⟩
      obtain ⟨y, hy⟩ : ∃ y, b[k]? = some y := ⟨b[k], by simp [hlt2]⟩
      have hdx : a.drop k = x :: a.drop (k + 1) := by
        rw [List.drop_eq_getElem_cons hlt]; rw [List.getElem?_eq_getElem hlt] at hx; rw [Option.some.inj hx]
      have hdy : b.drop k = y :: b.drop (k + 1) := by
        rw [List.drop_eq_getElem_cons hlt2]; rw [List.getElem?_eq_getElem hlt2] at hy; rw [Option.some.inj hy]
      rw [hdx, hdy, sameVBs] at he
      have hj1 : IntKind.i64.wrap ((k : Int) + 1) = (k : Int) + 1 := w64 (by omega) (by omega)
      simp -implicitDefEqProofs [g15, g17, hx, eVB]
      refine allocK.intro (fun b1 hb1 => ?_)
      simp -implicitDefEqProofs [g1, hy, eVB]
      refine allocK.intro (fun b2 hb2 => ?_)
      have hbb : ¬ b1 = b2 := by rintro rfl; simp at hb2
      have hbb' : ¬ b2 = b1 := fun h => hbb h.symm
      simp -implicitDefEqProofs [g2, hbb, hbb']
      refine CallK.with (sameVB_spec x y) (by simp [eVB]) ?_
      simp -implicitDefEqProofs
      refine branch_intro (fun h3 => ?_) (fun h3 => ?_)
      · rw [h3, Bool.true_and] at he
        simp -implicitDefEqProofs [g17, hj1]
        exact ⟨⟨k + 1, by simp [g15], by simp [g1], by simp [g2], by simp [g16], by simp, by omega, he⟩, by omega⟩
      · rw [h3, Bool.false_and] at he
        simp -implicitDefEqProofs [← he]
    · have hk' : k = a.length := by omega
      subst hk'
      rw [List.drop_length, hl, List.drop_length, sameVBs] at he
      simp -implicitDefEqProofs [← he]
  · have hr : sameVBs a b = false := sameVBs_len (by omega)
    simp -implicitDefEqProofs [hr]
end Go.Proofs.YtjbbfiagijjdoaaGreat

/- Contracts: lists of what is told of views (api.ViewCells) that are the same. Printed by sort/gen.py. No condition. -/
set_option linter.unusedSimpArgs false
set_option linter.unusedVariables false
set_option maxRecDepth 10000
namespace Go.Proofs.YtjbbfiagijjdoaaGreat
open Go Go.Rw Go.Proofs
-- a goal is never to be run by the elaborator
attribute [local irreducible] awp aops aop aopsE aeff

def sameVC (x y : PVC) : Bool := decide (x.view = y.view) && decide (x.cells = y.cells)
def sameVCs : List PVC → List PVC → Bool
  | [], [] => true
  | x :: l, y :: m => sameVC x y && sameVCs l m
  | _, _ => false
theorem sameVCs_len : ∀ {a b : List PVC}, a.length ≠ b.length → sameVCs a b = false
  | [], [], h => absurd rfl h
  | [], _ :: _, _ => rfl
  | _ :: _, [], _ => rfl
  | x :: a, y :: b, h => by
    have := sameVCs_len (a := a) (b := b) (by simp at h; exact h)
    simp [sameVCs, this]
theorem sameVC_spec (x y : PVC) : ASpec Tryz.prog 124 [.agg (eVC x), .agg (eVC y)] (· = .v (.bool (sameVC x y))) := by
  refine ASpec.of_awp Tryz.func124 (by kernel_rfl) rfl (by rw [Tryz.results124]) Tryz.ntmps124 ?_
  simp -implicitDefEqProofs [eVC]
  refine allocK.intro (fun b hb => ?_)
  simp -implicitDefEqProofs
  refine allocK.intro (fun b2 hb2 => ?_)
  have hbb : ¬ b = b2 := by rintro rfl; simp at hb2
  have hbb' : ¬ b2 = b := fun h => hbb h.symm
  by_cases h1 : x.view.add = y.view.add
  · by_cases h2 : x.view.del = y.view.del
    · have hv : x.view = y.view := by
        obtain ⟨⟨p, q⟩, _⟩ := x
        obtain ⟨⟨p2, q2⟩, _⟩ := y
        simp at h1 h2
        simp [h1, h2]
      simp -implicitDefEqProofs [hbb, hbb', h1, h2]
      refine CallK.with (equal_cells x.cells y.cells) rfl ?_
      simp -implicitDefEqProofs [sameVC, hv]
    · have hv : ¬ x.view = y.view := fun h => h2 (by rw [h])
      have h2b : (x.view.del == y.view.del) = false := by simpa using h2
      simp -implicitDefEqProofs [hbb, hbb', h1, h2, h2b, sameVC, hv]
  · have hv : ¬ x.view = y.view := fun h => h1 (by rw [h])
    have h1b : (x.view.add == y.view.add) = false := by simpa using h1
    simp -implicitDefEqProofs [hbb, hbb', h1, h1b, sameVC, hv]
def EqVCI (a b : List PVC) (t : Nat → AV) (_ : Nat → Option (List AV)) : Prop := ∃ k : Nat, t 15 = .sl .no (rowsVC a) ∧ t 1 = .sl .no (rowsVC b) ∧ t 2 = .fn 124 [] ∧ t 16 = .v (.int .i64 a.length) ∧ t 17 = .v (.int .i64 k) ∧ k ≤ a.length ∧ sameVCs (a.drop k) (b.drop k) = sameVCs a b
theorem equalfVC_spec (a b : List PVC) : ASpec Tryz.prog 123 [.sl .no (rowsVC a), .sl .no (rowsVC b), .fn 124 []] (· = .v (.bool (sameVCs a b))) := by
  refine ASpec.of_awp Tryz.func123 (by kernel_rfl) rfl (by rw [Tryz.results123]) Tryz.ntmps123 ?_
  simp -implicitDefEqProofs
  intro h1 h2
  refine branch_dec (fun hb => ?_) (fun hb => ?_)
  · have hl : a.length = b.length := by omega
    simp -implicitDefEqProofs
    intro _
    refine loopK.intro (EqVCI a b) (fun t => a.length - natOf (t 17)) ?_ ?_
    · exact ⟨0, by simp, by simp, by simp, by simp, by simp, by omega, by simp⟩
    rintro t hh ⟨k, g15, g1, g2, g16, g17, hk, he⟩
    simp -implicitDefEqProofs [g16, g17]
    refine branch_dec (fun hlt => ?_) (fun hlt => ?_)
    · have hlt : k < a.length := by omega
      have hlt2 : k < b.length := by omega
      obtain ⟨x, hx⟩ : ∃ x, a[k]? = some x := ⟨a[k], by simp [hlt]⟩
      obtain ⟨y, hy⟩ : ∃ y, b[k]? = some y := ⟨b[k], by simp [hlt2]⟩
      have hdx : a.drop k = x :: a.drop (k + 1) := by
        rw [List.drop_eq_getElem_cons hlt]; rw [List.getElem?_eq_getElem hlt] at hx; rw [Option.some.inj hx]
      have hdy : b.drop k = y :: b.drop (k + 1) := by
        rw [List.drop_eq_getElem_cons hlt2]; rw [List.getElem?_eq_getElem hlt2] at hy; rw [Option.some.inj hy]
      rw [hdx, hdy, sameVCs] at he
      have hj1 : IntKind.i64.wrap ((k : Int) + 1) = (k : Int) + 1 := w64 (by omega) (by omega)
      simp -implicitDefEqProofs [g15, g17, hx, eVC]
      refine allocK.intro (fun b1 hb1 => ?_)
      simp -implicitDefEqProofs [g1, hy, eVC]
      refine allocK.intro (fun b2 hb2 => ?_)
      have hbb : ¬ b1 = b2 := by rintro rfl; simp at hb2
      have hbb' : ¬ b2 = b1 := fun h => hbb h.symm
      simp -implicitDefEqProofs [g2, hbb, hbb']
      refine CallK.with (sameVC_spec x y) (by simp [eVC]) ?_
      simp -implicitDefEqProofs
      refine branch_intro (fun h3 => ?_) (fun h3 => ?_)
      · rw [h3, Bool.true_and] at he
        simp -implicitDefEqProofs [g17, hj1]
        exact ⟨⟨k + 1, by simp [g15], by simp [g1], by simp [g2], by simp [g16], by simp, by omega, he⟩, by omega⟩
      · rw [h3, Bool.false_and] at he
        simp -implicitDefEqProofs [← he]
    · have hk' : k = a.length := by omega
      subst hk'
      rw [List.drop_length, hl, List.drop_length, sameVCs] at he
      simp -implicitDefEqProofs [← he]
  · have hr : sameVCs a b = false := sameVCs_len (by omega)
    simp -implicitDefEqProofs [hr]
end Go.Proofs.YtjbbfiagijjdoaaGreat

/- Contracts: are two states the same? No condition. -/
set_option linter.unusedSimpArgs false
set_option linter.unusedVariables false
set_option maxRecDepth 10000
namespace Go.Proofs.YtjbbfiagijjdoaaGreat
open Go Go.Rw Go.Proofs
-- a goal is never to be run by the elaborator
attribute [local irreducible] awp aops aop aopsE aeff

def EqiI (a b : List PVI) (t : Nat → AV) (_ : Nat → Option (List AV)) : Prop := ∃ k : Nat, t 0 = .sl .no (rowsVI a) ∧ t 1 = .sl .no (rowsVI b) ∧ t 12 = .v (.int .i64 a.length) ∧ t 13 = .v (.int .i64 k) ∧ k ≤ a.length ∧ a.take k = b.take k
theorem viEq {x y : PVI} : x = y ↔ x.view.add = y.view.add ∧ x.view.del = y.view.del ∧ x.change.add = y.change.add ∧ x.change.del = y.change.del := by
  obtain ⟨⟨a1, d1⟩, ⟨c1, e1⟩⟩ := x
  obtain ⟨⟨a2, d2⟩, ⟨c2, e2⟩⟩ := y
  simp [and_assoc]
instance : DecidableEq PVI := fun x y => decidable_of_iff _ viEq.symm
theorem equal_intents (a b : List PVI) : ASpec Tryz.prog 125 [.sl .no (rowsVI a), .sl .no (rowsVI b)] (· = .v (.bool (decide (a = b)))) := by
  refine ASpec.of_awp Tryz.func125 (by kernel_rfl) rfl (by rw [Tryz.results125]) Tryz.ntmps125 ?_
  simp -implicitDefEqProofs
  intro h1 h2
  refine branch_dec (fun hb => ?_) (fun hb => ?_)
  · have hl : a.length = b.length := by omega
    simp -implicitDefEqProofs
    intro _
    refine loopK.intro (EqiI a b) (fun t => a.length - natOf (t 13)) ?_ ?_
    · exact ⟨0, by simp, by simp, by simp, by simp, by omega, by simp⟩
    rintro t hh ⟨k, g0, g1, g12, g13, hk, he⟩
    simp -implicitDefEqProofs [g12, g13]
    refine branch_dec (fun hlt => ?_) (fun hlt => ?_)
    · have hlt : k < a.length := by omega
      have hlt2 : k < b.length := by omega
      obtain ⟨x, hx⟩ : ∃ x, a[k]? = some x := ⟨a[k], by simp [hlt]⟩
      obtain ⟨y, hy⟩ : ∃ y, b[k]? = some y := ⟨b[k], by simp [hlt2]⟩
      have hj1 : IntKind.i64.wrap ((k : Int) + 1) = (k : Int) + 1 := w64 (by omega) (by omega)
      simp -implicitDefEqProofs [g13]
      refine regionK.intro 9 follows_mixed (by kernel_rfl) ?_
      simp -implicitDefEqProofs [g0, g1, g13, hx, hy, eVI]
      refine branch_intro (fun hb2 => ?_) (fun hb2 => ?_)
      · have hne : x ≠ y := by rintro rfl; simp at hb2
        simp -implicitDefEqProofs
        rintro rfl
        rw [hx] at hy
        exact hne (Option.some.inj hy)
      · have hxy : x = y := by
          rw [viEq]
          simp at hb2
          simp [hb2]
        simp -implicitDefEqProofs [g13, hj1]
        refine ⟨⟨k + 1, by simp [g0], by simp [g1], by simp [g12], by simp, by omega, ?_⟩, by omega⟩
        rw [List.take_add_one, List.take_add_one, he, hx, hy, hxy]
    · have hk' : k = a.length := by omega
      subst hk'
      simp -implicitDefEqProofs
      rw [List.take_length, hl, List.take_length] at he
      exact he
  · simp -implicitDefEqProofs
    rintro rfl; simp at hb
/-- the same state -/
def sameSt (a b : PState) : Bool := sameVBs a.books b.books && (sameVCs a.cells b.cells && (decide (a.intents = b.intents) && (decide (a.held = b.held) && (decide (a.inc = b.inc) && decide (a.last = b.last)))))
theorem foldsame_spec (a b : PState) : ASpec Tryz.prog 64 [.agg (eSt a), .agg (eSt b)] (· = .v (.bool (sameSt a b))) := by
  refine ASpec.of_awp Tryz.func64 (by kernel_rfl) rfl (by rw [Tryz.results64]) Tryz.ntmps64 ?_
  simp -implicitDefEqProofs [eSt]
  refine allocK.intro (fun b1 hb1 => ?_)
  simp -implicitDefEqProofs
  refine allocK.intro (fun b2 hb2 => ?_)
  have n12 : ¬ b1 = b2 := by rintro rfl; simp at hb2
  have n21 : ¬ b2 = b1 := fun h => n12 h.symm
  simp -implicitDefEqProofs [n12, n21]
  refine CallK.with (equalfVB_spec a.books b.books) (by simp [rowsVB]) ?_
  simp -implicitDefEqProofs [n12, n21]
  refine CallK.with (equalfVC_spec a.cells b.cells) (by simp [rowsVC]) ?_
  unfold sameSt
  cases h1 : sameVBs a.books b.books
  · simp -implicitDefEqProofs [n12, n21]
  cases h2 : sameVCs a.cells b.cells
  · simp -implicitDefEqProofs [n12, n21]
  simp -implicitDefEqProofs [n12, n21]
  refine CallK.with (equal_intents a.intents b.intents) (by simp [rowsVI]) ?_
  by_cases h3 : a.intents = b.intents
  · by_cases h4 : a.held.add = b.held.add
    · by_cases h5 : a.held.del = b.held.del
      · have hh : a.held = b.held := by cases hx : a.held; cases hy : b.held; simp_all
        by_cases h6 : a.inc = b.inc
        · by_cases h7 : a.last = b.last
          · simp -implicitDefEqProofs [n12, n21, h3, h4, h5, h6, h7, hh]
          · simp -implicitDefEqProofs [n12, n21, h3, h4, h5, h6, h7, hh]
        · simp -implicitDefEqProofs [n12, n21, h3, h4, h5, h6, hh]
      · have hh : ¬ a.held = b.held := fun h => h5 (by rw [h])
        have h5' : (a.held.del == b.held.del) = false := by simpa using h5
        simp -implicitDefEqProofs [n12, n21, h3, h4, h5, h5', hh]
    · have hh : ¬ a.held = b.held := fun h => h4 (by rw [h])
      have h4' : (a.held.add == b.held.add) = false := by simpa using h4
      simp -implicitDefEqProofs [n12, n21, h3, h4, h4', hh]
  · simp -implicitDefEqProofs [n12, n21, h3]
theorem sameVBs_self (l : List PVB) : sameVBs l l = true := by
  induction l with
  | nil => rfl
  | cons x l ih => simp [sameVBs, sameVB, samesE, ih]
theorem sameVCs_self (l : List PVC) : sameVCs l l = true := by
  induction l with
  | nil => rfl
  | cons x l ih => simp [sameVCs, sameVC, ih]
theorem sameSt_self (s : PState) : sameSt s s = true := by
  unfold sameSt
  rw [sameVBs_self, sameVCs_self]
  simp
end Go.Proofs.YtjbbfiagijjdoaaGreat
