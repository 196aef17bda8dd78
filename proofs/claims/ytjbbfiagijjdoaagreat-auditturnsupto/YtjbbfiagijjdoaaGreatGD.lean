/- Parts of the proof: what is used by the law. No condition. -/
import Derived.Test.YtjbbfiagijjdoaaGreatGC
set_option linter.unusedSimpArgs false
set_option linter.unusedVariables false
/- Contracts: a list with something put in its place (api.ViewBook). Printed by sort/gen.py. No condition. -/
set_option linter.unusedSimpArgs false
set_option linter.unusedVariables false
set_option maxRecDepth 10000
namespace Go.Proofs.YtjbbfiagijjdoaaGreat
open Go Go.Rw Go.Proofs
-- a goal is never to be run by the elaborator
attribute [local irreducible] awp aops aop aopsE aeff

theorem putKVB_new {l : List PVB} {x : PVB} (hs : sortK keyVB l) (hh : hasK keyVB l (keyVB x) = false) : putK keyVB l x = insVB l (posK keyVB l (keyVB x)) x := by
  obtain ⟨h1, h2⟩ := take_posK hs (keyVB x)
  unfold putK insVB
  rw [h1, h2]
  congr 2
  refine List.filter_congr fun y hy => ?_
  have : ¬ keyVB y = keyVB x := fun h => by
    have h3 : hasK keyVB l (keyVB x) = true := by rw [hasK, List.any_eq_true]; exact ⟨y, hy, by simpa using h⟩
    rw [hh] at h3; simp at h3
  by_cases h : keyVB x < keyVB y
  · have : ¬ keyVB y < keyVB x := by omega
    simp [h, this]
  · have : keyVB y < keyVB x := by omega
    simp [h, this]
theorem putKVB_old {l : List PVB} {x : PVB} (hs : sortK keyVB l) (hh : hasK keyVB l (keyVB x) = true) : putK keyVB l x = l.set (posK keyVB l (keyVB x)) x ∧ posK keyVB l (keyVB x) < l.length := by
  obtain ⟨h1, h2⟩ := take_posK hs (keyVB x)
  rcases hasK_at hs (keyVB x) with ⟨y, hy, hk, _⟩ | ⟨_, h3⟩
  · have hlt : posK keyVB l (keyVB x) < l.length := by
      rcases Nat.lt_or_ge (posK keyVB l (keyVB x)) l.length with h | h
      · exact h
      · rw [List.getElem?_eq_none h] at hy; simp at hy
    refine ⟨?_, hlt⟩
    rw [List.set_eq_take_append_cons_drop, if_pos hlt, h1]
    unfold putK
    congr 2
    have hd : l.drop (posK keyVB l (keyVB x)) = y :: l.drop (posK keyVB l (keyVB x) + 1) := by
      rw [List.drop_eq_getElem_cons hlt]; rw [List.getElem?_eq_getElem hlt] at hy; rw [Option.some.inj hy]
    have hsd : (l.drop (posK keyVB l (keyVB x))).Pairwise fun a b => keyVB a < keyVB b := List.Pairwise.sublist (List.drop_sublist _ _) hs
    rw [hd, List.pairwise_cons] at hsd
    have e1 : l.filter (fun z => decide (keyVB x < keyVB z)) = (l.filter (fun z => decide (¬ keyVB z < keyVB x))).filter (fun z => decide (keyVB x < keyVB z)) := by
      rw [List.filter_filter]
      refine List.filter_congr fun z _ => ?_
      by_cases h : keyVB x < keyVB z
      · have : ¬ keyVB z < keyVB x := by omega
        simp [h, this]
      · simp [h]
    rw [e1, ← h2, hd, List.filter_cons_of_neg (by simp [hk])]
    refine List.filter_eq_self.2 fun z hz => ?_
    have := hsd.1 z hz
    simp; omega
  · rw [hh] at h3; simp at h3
theorem putVB_spec (l : List PVB) (x : PVB) (hs : sortK keyVB l) (hl : l.length ≤ 1000000) (hr : ∀ y ∈ l, rightV y.view = true) (hx : rightV x.view = true) :
    ASpec Tryz.prog 100 [.agg [.fn 88 []], .sl .no (rowsVB l), .agg (eVB x)] (fun r => ∃ tag, r = .sl tag (rowsVB (putK keyVB l x))) := by
  refine ASpec.of_awpS Tryz.func100 (by kernel_rfl) rfl (by rw [Tryz.results100]) Tryz.ntmps100 ?_
  simp -implicitDefEqProofs [eVB]
  refine allocK.intro (fun b1 hb1 => ?_)
  simp -implicitDefEqProofs
  refine allocK.intro (fun b2 hb2 => ?_)
  have n12 : ¬ b1 = b2 := by rintro rfl; simp at hb2
  have n21 : ¬ b2 = b1 := fun h => n12 h.symm
  simp -implicitDefEqProofs [n12, n21]
  refine regionK.intro 12 follows_mixed (by kernel_rfl) ?_
  simp -implicitDefEqProofs [n12, n21]
  refine CallQ.with (ofVB_spec x) (by simp [eVB]) ?_
  simp -implicitDefEqProofs [n12, n21]
  refine CallQ.with (placeVB_spec l x.view hs (by omega) hr hx) (by simp [eV]) ?_
  have hpl := posK_le (key := keyVB) l (nameV x.view)
  simp -implicitDefEqProofs [n12, n21]
  have ek : nameV x.view = keyVB x := rfl
  rw [ek] at *
  have hcl := cloneVB_own l (by omega)
  refine CallK.own hcl (by simp) ?_
  rintro r (⟨tag, htag, rfl, hl0⟩ | ⟨hne, rfl⟩)
  · left
    refine ⟨tag, htag, rfl, ?_⟩
    subst hl0
    simp -implicitDefEqProofs [hasK, posK, n12, n21]
    refine CallK.fresh (insertVB_mn x) (by simp [eVB]) ?_
    rintro _ h' H ⟨b, c, sp, rfl, rfl, hsp⟩ - hH -
    have k1 := hH b _ (one_self _ _)
    clear hH
    simp -implicitDefEqProofs
    refine shiftK.freeze (b := b) (len := 1) (cap := c) 6 89 (rowsVB [x]) (by simp) (cells := eVB x ++ sp) k1 (by simpa [rowsVB] using chunksVB [x] sp) (by simp) ?_ ?_
    · rw [List.length_append, show (eVB x).length = 3 from rfl]; exact hsp
    have hp : putK keyVB [] x = [x] := rfl
    simp -implicitDefEqProofs [hp]
  · right
    refine ⟨_, _, _, _, rfl, hne, .inl rfl, fun b cap spare hb hcap hsp => ?_⟩
    have n1 : ¬ b = b1 := by rintro rfl; simp [n12] at hb
    have n1' : ¬ b1 = b := fun h => n1 h.symm
    have n2 : ¬ b = b2 := by rintro rfl; simp at hb
    have n2' : ¬ b2 = b := fun h => n2 h.symm
    have ed := dead2VB l
    have hl0 : 0 < l.length := by
      cases l with
      | nil => exact absurd rfl hne
      | cons => simp
    have hsp2 : l.length * 3 + (spare.map AV.v).length = cap * 3 := by simp at hsp ⊢; omega
    have hcl2 : ((rowsVB l).flatten ++ spare.map AV.v).length = cap * 3 := by rw [List.length_append, flenVB]; exact hsp2
    cases hh : hasK keyVB l (keyVB x)
    · simp -implicitDefEqProofs [n12, n21, n1, n1', n2, n2', ed, hh]
      refine CallK.mh (insertVB_sm l (posK keyVB l (keyVB x)) b cap (spare.map AV.v) x hl0 hpl (by omega) hsp2) (by simp [eVB]) (SubH_one.2 (by simp [Weak.refl])) ?_
      rintro _ h' H ⟨b', c', sp', rfl, rfl, hlen⟩ - hH -
      have k1 := hH b' _ (one_self _ _)
      clear hH
      have hil : (insVB l (posK keyVB l (keyVB x)) x).length = l.length + 1 := by
        unfold insVB
        rw [List.length_append, List.length_take, List.length_cons, List.length_drop]; omega
      rw [putKVB_new hs hh]
      generalize insVB l (posK keyVB l (keyVB x)) x = L at *
      simp -implicitDefEqProofs
      refine shiftK.freeze (b := b') (len := l.length + 1) (cap := c') 6 89 (rowsVB L) (by simp) k1 (chunksVB L sp') (by simp [hil]) ?_ ?_
      · rw [List.length_append, flenVB, hil]; exact hlen
      simp -implicitDefEqProofs
    · obtain ⟨hpe, hlt⟩ := putKVB_old hs hh
      rw [hpe]
      have hset : overlay ((rowsVB l).flatten ++ spare.map AV.v) (posK keyVB l (keyVB x) * 3) (eVB x) = (rowsVB (l.set (posK keyVB l (keyVB x)) x)).flatten ++ spare.map AV.v := by
        rw [flat_set (rowsVB_one l) rfl (by simpa using hlt)]
        simp [rowsVB, List.map_set]
      have hfit : posK keyVB l (keyVB x) * 3 + 3 ≤ ((rowsVB l).flatten ++ spare.map AV.v).length := flat_fits (rowsVB_one l) (by simpa using hlt)
      generalize posK keyVB l (keyVB x) = p at *
      have hlt' : (p : Int) < (l.length : Int) := by omega
      obtain ⟨L, hL⟩ : ∃ L, l.set p x = L := ⟨_, rfl⟩
      have hLl : L.length = l.length := by rw [← hL, List.length_set]
      rw [hL] at hset ⊢
      have hcol : ((rowsVB L).flatten ++ spare.map AV.v).length = cap * 3 := by rw [List.length_append, flenVB, hLl]; exact hsp2
      have hck := chunksVB L (spare.map AV.v)
      generalize (rowsVB L).flatten ++ spare.map AV.v = C2 at *
      simp -implicitDefEqProofs [n12, n21, n1, n1', n2, n2', ed, hh]
      generalize (rowsVB l).flatten ++ spare.map AV.v = C1 at *
      simp [overlay, eVB] at hset
      simp -implicitDefEqProofs [n12, n21, n1, n1', n2, n2', hlt, hlt', hfit, hset]
      refine shiftK.freeze (b := b) (len := l.length) (cap := cap) 6 89 (rowsVB L) (by simp) (by simp) hck (by simp [hLl]) hcol ?_
      simp -implicitDefEqProofs
end Go.Proofs.YtjbbfiagijjdoaaGreat

/- Contracts: where something stands by its view (api.ViewCells). Printed by sort/gen.py. No condition. -/
set_option linter.unusedSimpArgs false
set_option linter.unusedVariables false
set_option maxRecDepth 10000
namespace Go.Proofs.YtjbbfiagijjdoaaGreat
open Go Go.Rw Go.Proofs
-- a goal is never to be run by the elaborator
attribute [local irreducible] awp aops aop aopsE aeff

@[simp] theorem vTfVC : vT Tryz.prog 118 = some (1, false) := by kernel_rfl
def keyVC (x : PVC) : Int := nameV x.view
def rowsVC (l : List PVC) : List (List AV) := l.map eVC
@[simp] theorem rowsVC_length (l : List PVC) : (rowsVC l).length = l.length := by simp [rowsVC]
@[simp] theorem rowsVC_get (l : List PVC) (i : Nat) : (rowsVC l)[i]? = (l[i]?).map eVC := by simp [rowsVC]
@[simp] theorem rowsVC_nil : rowsVC [] = [] := rfl
@[simp] theorem rowsVC_append (l m : List PVC) : rowsVC l ++ rowsVC m = rowsVC (l ++ m) := by simp [rowsVC]
theorem rowsVC_one (l : List PVC) : ∀ r ∈ rowsVC l, r.length = 3 := by
  intro r hr
  obtain ⟨c, _, rfl⟩ := List.mem_map.1 hr
  rfl
@[simp] theorem rowsVC_rows (l : List PVC) : (∀ r : List AV, r ∈ rowsVC l → r.length = 3) ↔ True := iff_of_true (rowsVC_one l) trivial
theorem ofVC_spec (x : PVC) : ASpec Tryz.prog 93 [.agg (eVC x)] (· = .agg (eV x.view)) := by
  refine ASpec.of_awp Tryz.func93 (by kernel_rfl) rfl (by rw [Tryz.results93]) Tryz.ntmps93 ?_
  simp -implicitDefEqProofs [eVC]
  refine allocK.intro (fun b1 hb1 => ?_)
  simp -implicitDefEqProofs
  refine allocK.intro (fun b2 hb2 => ?_)
  have n12 : ¬ b1 = b2 := by rintro rfl; simp at hb2
  have n21 : ¬ b2 = b1 := fun h => n12 h.symm
  simp -implicitDefEqProofs [n12, n21, eV]
theorem shelvedVC_spec : ASpec Tryz.prog 92 [.fn 93 []] (· = .agg [.fn 93 []]) := by
  refine ASpec.of_awp Tryz.func92 (by kernel_rfl) rfl (by rw [Tryz.results92]) Tryz.ntmps92 ?_
  simp -implicitDefEqProofs
  refine allocK.intro (fun b1 hb1 => ?_)
  simp -implicitDefEqProofs
theorem placeKeyVC_spec (x : PVC) (b : Nat) (n : Int) (h : rightV x.view = true) : MSpec Tryz.prog 152 [.agg (eVC x), eI n, .ptr b 0] (one b [.fn 93 []]) (fun r h' => r = eI (cmpI (keyVC x) n) ∧ h' = one b [.fn 93 []]) := by
  refine MSpec.of_awp Tryz.func152 (by kernel_rfl) rfl (by rw [Tryz.results152]) Tryz.ntmps152 ?_
  simp -implicitDefEqProofs [eVC]
  refine allocK.intro (fun b1 hb1 => ?_)
  have n1 : ¬ b1 = b := by rintro rfl; simp at hb1
  have n2 : ¬ b = b1 := fun h => n1 h.symm
  simp -implicitDefEqProofs [n1, n2]
  refine CallK.with (ofVC_spec x) (by simp [eVC]) ?_
  simp -implicitDefEqProofs [eV]
  refine CallK.with (change_name x.view h) (by simp [eV]) ?_
  simp -implicitDefEqProofs
  refine CallK.eq (compare_int (nameV x.view) n) ?_
  simp -implicitDefEqProofs [n1, n2, keyVC]
def BsVCI (l : List PVC) (n : Int) (g : FuncId) (b : Nat) (c : List AV) (t : Nat → AV) (h : Nat → Option (List AV)) : Prop := ∃ i j : Nat, t 0 = .sl .no (rowsVC l) ∧ t 1 = eI n ∧ t 2 = .fn g [.ptr b 0] ∧ t 8 = eI l.length ∧ t 9 = eI i ∧ t 10 = eI j ∧ i ≤ posK keyVC l n ∧ posK keyVC l n ≤ j ∧ j ≤ l.length ∧ h b = some c
def BsVCM (l : List PVC) (n : Int) (g : FuncId) (b : Nat) (c : List AV) (t : Nat → AV) (h : Nat → Option (List AV)) : Prop := t 0 = .sl .no (rowsVC l) ∧ t 1 = eI n ∧ t 2 = .fn g [.ptr b 0] ∧ t 8 = eI l.length ∧ t 9 = eI (posK keyVC l n) ∧ h b = some c
theorem bsearchVC_spec (g : FuncId) (b : Nat) (c : List AV) (l : List PVC) (n : Int) (hs : sortK keyVC l) (hl : l.length ≤ 1000000000) (hf : ∀ x ∈ l, MSpec Tryz.prog g [.agg (eVC x), eI n, .ptr b 0] (one b c) (fun r h' => r = eI (cmpI (keyVC x) n) ∧ h' = one b c)) :
    MSpec Tryz.prog 151 [.sl .no (rowsVC l), eI n, .fn g [.ptr b 0]] (one b c) (fun r h' => r = .tup [eI (posK keyVC l n), .v (.bool (hasK keyVC l n))] ∧ h' = one b c) := by
  have hp := posK_le (key := keyVC) l n
  refine MSpec.of_awp Tryz.func151 (by kernel_rfl) rfl (by rw [Tryz.results151]) Tryz.ntmps151 ?_
  simp -implicitDefEqProofs
  intro _
  refine loopK.post (BsVCI l n g b c) (fun t => natOf (t 10) - natOf (t 9)) (BsVCM l n g b c) ?_ ?_ ?_
  · exact ⟨0, l.length, by simp, by simp, by simp, by simp, by simp, by simp, by omega, hp, by omega, by simp⟩
  · rintro t hh ⟨i, j, g0, g1, g2, g8, g9, g10, hi, hj, hjl, hb⟩
    have hm9 : natOf (t 9) = i := by rw [g9]; simp
    have hm10 : natOf (t 10) = j := by rw [g10]; simp
    by_cases hlt : i < j
    · have hlt' : (i : Int) < (j : Int) := by omega
      have w1 : IntKind.i64.wrap ((i : Int) + (j : Int)) = (i : Int) + (j : Int) := w64 (by omega) (by omega)
      have w2 : IntKind.u64.wrap ((i : Int) + (j : Int)) = (i : Int) + (j : Int) := by
        simp [IntKind.wrap, IntKind.bits, IntKind.signed]; omega
      obtain ⟨m, hm⟩ : ∃ m : Nat, m = (i + j) / 2 := ⟨_, rfl⟩
      have w3 : ((i : Int) + (j : Int)) / 2 = (m : Int) := by omega
      have w4 : IntKind.i64.wrap (m : Int) = (m : Int) := w64 (by omega) (by omega)
      have w4' : IntKind.u64.wrap (m : Int) = (m : Int) := by
        simp [IntKind.wrap, IntKind.bits, IntKind.signed]; omega
      have w5 : IntKind.i64.wrap ((m : Int) + 1) = ((m + 1 : Nat) : Int) := by rw [w64 (by omega) (by omega)]; omega
      have hml : m < l.length := by omega
      obtain ⟨x, hx⟩ : ∃ x, l[m]? = some x := ⟨l[m], by simp [hml]⟩
      have hpk := posK_lt hs (n := n) hx
      have s1 : Int.fdiv ((i : Int) + (j : Int)) (2 ^ min 1 IntKind.u64.bits) = (m : Int) := by
        have := shr_u64 (i + j) 1 (by omega)
        rw [hm]
        simpa using this
      have hml' : (m : Int) < (l.length : Int) := by omega
      simp -implicitDefEqProofs [g0, g1, g2, g9, g10, hlt', hlt, w1, w2, w3, w4, w4', hx, hml', eVC, aNum_shr, s1]
      refine CallK.one (hf x (List.mem_of_getElem? hx)) (by simp [eVC]) (by simp [hb, Weak.refl]) ?_
      have hcm : (cmpI (keyVC x) n < 0) ↔ keyVC x < n := by
        unfold cmpI
        by_cases h1 : keyVC x < n
        · simp [h1]
        · by_cases h2 : n < keyVC x <;> simp [h1, h2]
      by_cases hk : keyVC x < n
      · have hk1 := hcm.2 hk
        have hk2 := hpk.1 hk
        simp -implicitDefEqProofs [hk1, w5]
        exact ⟨⟨m + 1, j, by simp [g0], by simp [g1], by simp [g2], by simp [g8], by simp, by simp [g10], by omega, hj, hjl, by simp⟩, by first | omega | (simp [g9, g10]; omega)⟩
      · have hk1 : ¬ cmpI (keyVC x) n < 0 := fun h => hk (hcm.1 h)
        have hk2 : posK keyVC l n ≤ m := by
          rcases Nat.lt_or_ge m (posK keyVC l n) with h | h
          · exact absurd (hpk.2 h) hk
          · exact h
        simp -implicitDefEqProofs [hk1]
        exact ⟨⟨i, m, by simp [g0], by simp [g1], by simp [g2], by simp [g8], by simp [g9], by simp, hi, hk2, by omega, by simp⟩, by first | omega | (simp [g9, g10]; omega) | (simp [g9, g10, upd]; omega)⟩
    · have hlt' : ¬ (i : Int) < (j : Int) := by omega
      obtain rfl : i = posK keyVC l n := by omega
      simp -implicitDefEqProofs [g9, g10, hlt', hlt]
      exact ⟨by simp [g0], by simp [g1], by simp [g2], by simp [g8], by simp [g9], hb⟩
  rintro t hh ⟨g0, g1, g2, g8, g9, hb⟩
  have hcz : ∀ x : PVC, (cmpI (keyVC x) n = 0) ↔ keyVC x = n := fun x => by
    unfold cmpI
    by_cases h1 : keyVC x < n
    · have h3 : ¬ keyVC x = n := by omega
      simp [h1, h3]
    · by_cases h2 : n < keyVC x
      · have h3 : ¬ keyVC x = n := by omega
        simp [h1, h2, h3]
      · have h3 : keyVC x = n := by omega
        simp [h3]
  have hat := hasK_at hs n
  generalize posK keyVC l n = p at *
  by_cases hlt : p < l.length
  · have hlt' : (p : Int) < (l.length : Int) := by omega
    obtain ⟨x, hx⟩ : ∃ x, l[p]? = some x := ⟨l[p], by simp [hlt]⟩
    simp -implicitDefEqProofs [g0, g1, g2, g8, g9, hlt', hx, eVC]
    refine CallK.one (hf x (List.mem_of_getElem? hx)) (by simp [eVC]) (by simp [hb, Weak.refl]) ?_
    by_cases hk : keyVC x = n
    · have h1 := (hcz x).2 hk
      have h2 : hasK keyVC l n = true := by
        rcases hat with ⟨y, h3, h4, h5⟩ | ⟨h3, h4⟩
        · exact h5
        · exact absurd hk (h3 x hx)
      simp -implicitDefEqProofs [h1, h2, g9, hb, Weak.refl]
    · have h1 : ¬ cmpI (keyVC x) n = 0 := fun h => hk ((hcz x).1 h)
      have h2 : hasK keyVC l n = false := by
        rcases hat with ⟨y, h3, h4, h5⟩ | ⟨h3, h4⟩
        · rw [hx] at h3; cases h3; exact absurd h4 hk
        · exact h4
      simp -implicitDefEqProofs [h1, h2, g9, hb, Weak.refl]
  · have hlt' : ¬ (p : Int) < (l.length : Int) := by omega
    have h2 : hasK keyVC l n = false := by
      rcases hat with ⟨y, h3, h4, h5⟩ | ⟨h3, h4⟩
      · rw [List.getElem?_eq_none (by omega)] at h3; simp at h3
      · exact h4
    simp -implicitDefEqProofs [g0, g1, g2, g8, g9, hlt', h2, hb, Weak.refl]
theorem placeVC_spec (l : List PVC) (v : PView) (hs : sortK keyVC l) (hl : l.length ≤ 1000000000) (hr : ∀ x ∈ l, rightV x.view = true) (hv : rightV v = true) :
    ASpec Tryz.prog 94 [.agg [.fn 93 []], .sl .no (rowsVC l), .agg (eV v)] (· = .tup [eI (posK keyVC l (nameV v)), .v (.bool (hasK keyVC l (nameV v)))]) := by
  refine ASpec.of_awp Tryz.func94 (by kernel_rfl) rfl (by rw [Tryz.results94]) Tryz.ntmps94 ?_
  simp -implicitDefEqProofs [eV]
  refine allocK.intro (fun b1 hb1 => ?_)
  simp -implicitDefEqProofs
  refine allocK.intro (fun b2 hb2 => ?_)
  have n12 : ¬ b1 = b2 := by rintro rfl; simp at hb2
  have n21 : ¬ b2 = b1 := fun h => n12 h.symm
  simp -implicitDefEqProofs [n12, n21]
  refine CallK.with (change_name v hv) (by simp [eV]) ?_
  simp -implicitDefEqProofs [n12, n21]
  refine CallK.one (bsearchVC_spec 152 b1 [.fn 93 []] l (nameV v) hs hl (fun x hx => placeKeyVC_spec x b1 (nameV v) (hr x hx))) rfl (by simp [n12, Weak.refl]) ?_
  simp -implicitDefEqProofs
end Go.Proofs.YtjbbfiagijjdoaaGreat

/- Contracts: something is put in its place (api.ViewCells). Printed by sort/gen.py. No condition. -/
set_option linter.unusedSimpArgs false
set_option linter.unusedVariables false
set_option maxRecDepth 10000
namespace Go.Proofs.YtjbbfiagijjdoaaGreat
open Go Go.Rw Go.Proofs
-- a goal is never to be run by the elaborator
attribute [local irreducible] awp aops aop aopsE aeff

theorem deadVC (l : List PVC) : (rowsVC l).flatten.map dead1 = (rowsVC l).flatten := by
  induction l with
  | nil => rfl
  | cons x l ih => simp [rowsVC, eVC, dead1] at *; try exact ih
theorem dead2VC (l : List PVC) : (rowsVC l).map (List.map dead1) = rowsVC l := by
  induction l with
  | nil => rfl
  | cons x l ih => simp [rowsVC, eVC, dead1] at *; try exact ih
theorem flenVC (l : List PVC) : (rowsVC l).flatten.length = l.length * 3 := by
  rw [flat_len (rowsVC_one l)]; simp
theorem chunksVC (l : List PVC) (sp : List AV) : chunks ((rowsVC l).flatten ++ sp) (rowsVC l) 3 := by
  refine ⟨rowsVC_one l, ?_, ?_, ?_⟩
  · rw [show (rowsVC l).length * 3 = (rowsVC l).flatten.length by rw [flenVC]; simp, List.take_left, deadVC]
  · rw [List.length_append, flenVC]; simp
  · intro r hr x hx
    obtain ⟨c, _, rfl⟩ := List.mem_map.1 hr
    simp [eVC] at hx
    rcases hx with rfl | rfl | rfl <;> rfl
def ClVCR (l : List PVC) (r : AV) : Prop := (∃ tag, (tag = .nil ∨ tag = .full) ∧ r = .sl tag [] ∧ l = []) ∨ (rowsVC l ≠ [] ∧ r = .sl (.live 91 3 true) (rowsVC l))
theorem cloneVC_own (l : List PVC) (hl : l.length * 40 ≤ 140737488355328) : ASpec Tryz.prog 127 [.sl .no (rowsVC l)] (ClVCR l) := by
  refine ASpec.of_awp Tryz.func127 (by kernel_rfl) rfl (by rw [Tryz.results127]) Tryz.ntmps127 ?_
  simp -implicitDefEqProofs
  refine nilK.intro (fun h => ?_) ?_
  · have h' : l = [] := by simpa [rowsVC] using h
    simp -implicitDefEqProofs [h]; exact .inl ⟨_, .inl rfl, rfl, h'⟩
  · simp -implicitDefEqProofs [hl]
    by_cases h : l = []
    · subst h; exact .inl ⟨_, .inr rfl, rfl, rfl⟩
    · have h' : rowsVC l ≠ [] := by simpa [rowsVC] using h
      exact .inr ⟨h', by rw [appTag_full h']⟩
theorem insertVC_mn (x : PVC) : MSpec Tryz.prog 158 [.mn, eI 0, .sl .no [eVC x]] (fun _ => none) (fun r h' => ∃ b c sp, r = .sm b 0 1 c ∧ h' = one b (eVC x ++ sp) ∧ 3 + sp.length = c * 3) := by
  refine MSpec.of_awp Tryz.func158 (by kernel_rfl) rfl (by rw [Tryz.results158]) Tryz.ntmps158 ?_
  simp -implicitDefEqProofs [eVC]
  refine growMnK.intro (fun h => by simp at h) fun _ b c sp hb hc hsp => ?_
  simp -implicitDefEqProofs
  simp at hsp
  exact ⟨_, SubH_one.2 (by simp; exact Weak.refl _), b, c, ⟨rfl, rfl⟩, sp, rfl, by omega⟩
theorem lay_atVC (P T X : List AV) : overlay (P ++ T) P.length X = P ++ X ++ T.drop X.length := by
  unfold overlay
  rw [List.take_left, List.drop_append, List.drop_of_length_le (by omega), List.nil_append, Nat.add_sub_cancel_left]
theorem lay_twiceVC (P T X Y : List AV) : overlay (overlay (P ++ T) P.length X) (P.length + X.length) Y = P ++ X ++ Y ++ T.drop (X.length + Y.length) := by
  rw [lay_atVC, ← List.length_append, lay_atVC, List.drop_drop]
theorem lay_backVC (P T R Q : List AV) (h : R.length ≤ T.length) : overlay (overlay (P ++ T) (P.length + R.length) Q) P.length R = P ++ R ++ Q ++ T.drop (R.length + Q.length) := by
  have e : overlay (P ++ T) (P.length + R.length) Q = P ++ (T.take R.length ++ (Q ++ T.drop (R.length + Q.length))) := by
    unfold overlay
    rw [List.take_append, List.take_of_length_le (by omega), Nat.add_sub_cancel_left, List.drop_append, List.drop_of_length_le (by omega), List.nil_append, show P.length + R.length + Q.length - P.length = R.length + Q.length by omega]
    simp only [List.append_assoc]
  rw [e, lay_atVC, List.drop_append, List.drop_of_length_le (by rw [List.length_take]; omega), List.nil_append, List.length_take, Nat.min_eq_left h, Nat.sub_self, List.drop_zero]
  simp only [List.append_assoc]
/-- behind an insertion -/
def insVC (l : List PVC) (i : Nat) (x : PVC) : List PVC := l.take i ++ x :: l.drop i
theorem insertVC_sm (l : List PVC) (i b cap : Nat) (sp : List AV) (x : PVC) (h0 : 0 < l.length) (hi : i ≤ l.length) (hl : l.length ≤ 1000000000) (hsp : l.length * 3 + sp.length = cap * 3) :
    MSpec Tryz.prog 158 [.sm b 0 l.length cap, eI i, .sl .no [eVC x]] (one b ((rowsVC l).flatten ++ sp)) (fun r h' => ∃ b' c' sp', r = .sm b' 0 (l.length + 1) c' ∧ h' = one b' ((rowsVC (insVC l i x)).flatten ++ sp') ∧ (l.length + 1) * 3 + sp'.length = c' * 3) := by
  refine MSpec.of_awp Tryz.func158 (by kernel_rfl) rfl (by rw [Tryz.results158]) Tryz.ntmps158 ?_
  have hlen := flenVC l
  have hcl : ((rowsVC l).flatten ++ sp).length = cap * 3 := by rw [List.length_append, hlen]; exact hsp
  have w1 : IntKind.i64.wrap ((l.length : Int) + 1) = ((l.length + 1 : Nat) : Int) := by rw [w64 (by omega) (by omega)]; omega
  generalize hA : (rowsVC l).flatten ++ sp = A at *
  have hne : ¬ l = [] := by rintro rfl; simp at h0
  by_cases hil : i = l.length
  · subst hil
    simp -implicitDefEqProofs [eVC, hne, hcl]
    intro _
    refine ⟨by omega, growSmK.intro fun b' c' spare hb' hc' hsp' => ?_⟩
    have htk : (A.take (l.length * 3)).map dead1 = (rowsVC l).flatten := by rw [← hA, ← hlen, List.take_left, deadVC]
    have hfin : (A.take (l.length * 3)).map dead1 ++ [eVC x].flatten.map dead1 ++ spare = (rowsVC (insVC l l.length x)).flatten ++ spare := by
      rw [htk]; simp [insVC, rowsVC, eVC, dead1]
    simp only [eVC] at hfin
    rw [hfin]
    simp -implicitDefEqProofs
    simp at hsp'
    exact ⟨_, SubH_one.2 (by simp; exact Weak.refl _), b', c', ⟨rfl, rfl⟩, spare, rfl, by omega⟩
  · have hlt : i < l.length := by omega
    have hil' : ¬ (i : Int) = (l.length : Int) := by omega
    have hlt' : (i : Int) < (l.length : Int) := by omega
    have hle : i ≤ l.length := hi
    have hti : (l.take i).length = i := by rw [List.length_take]; omega
    have hP : (rowsVC (l.take i)).flatten.length = i * 3 := by rw [flenVC, hti]
    have hQl : (rowsVC (l.drop i)).flatten.length = (l.length - i) * 3 := by rw [flenVC, List.length_drop]
    have hsplit : (rowsVC l).flatten = (rowsVC (l.take i)).flatten ++ (rowsVC (l.drop i)).flatten := by
      rw [← List.flatten_append, rowsVC_append, List.take_append_drop]
    have hins : (rowsVC (insVC l i x)).flatten = (rowsVC (l.take i)).flatten ++ eVC x ++ (rowsVC (l.drop i)).flatten := by
      simp [insVC, rowsVC]
    have hA2 : A = (rowsVC (l.take i)).flatten ++ ((rowsVC (l.drop i)).flatten ++ sp) := by rw [← hA, hsplit, List.append_assoc]
    have hPd := deadVC (l.take i)
    have hQd := deadVC (l.drop i)
    have hQc : ∀ x ∈ (rowsVC (l.drop i)).flatten, cellAV x = true := by
      intro y hy
      obtain ⟨r, hr, hy⟩ := List.mem_flatten.1 hy
      obtain ⟨c, _, rfl⟩ := List.mem_map.1 hr
      simp [eVC] at hy
      rcases hy with rfl | rfl | rfl <;> rfl
    generalize (rowsVC (insVC l i x)).flatten = W at *
    generalize (rowsVC (l.take i)).flatten = P1 at *
    generalize (rowsVC (l.drop i)).flatten = Q at *
    have hx3 : (eVC x).length = 3 := rfl
    have hq1 : (A.drop (i * 3)).take ((l.length - i) * 3) = Q := by rw [hA2, ← hP, List.drop_left, ← hQl, List.take_left]
    have hq2 : ((A.map dead1).drop (i * 3)).take ((l.length - i) * 3) = Q := by rw [← List.map_drop, ← List.map_take, hq1, hQd]
    have ht1 : ∀ r : List AV, [r].take (l.length + 1 - i) = [r] := fun r => List.take_of_length_le (by simp; omega)
    have ht2 : [3].take (l.length + 1 - i) = [3] := List.take_of_length_le (by simp; omega)
    have w3 : IntKind.i64.wrap ((i : Int) + 1) = ((i + 1 : Nat) : Int) := by rw [w64 (by omega) (by omega)]; omega
    have l1 : i < l.length + 1 := by omega
    have l1' : (i : Int) < (l.length : Int) + 1 := by omega
    have l2 : i + 1 < l.length + 1 := by omega
    have l2' : (i : Int) + 1 < (l.length : Int) + 1 := by omega
    have l2'' : (i : Int) + 1 ≤ (l.length : Int) := by omega
    have l3 : (0 : Int) ≤ (i : Int) + 1 := by omega
    by_cases hroom : l.length + 1 ≤ cap
    · have hr' : ¬ (cap : Int) < (l.length : Int) + 1 := by omega
      have hr2 : (l.length : Int) + 1 ≤ (cap : Int) := by omega
      have hr3 : (l.length : Int) + 1 ≤ 281474976710656 := by omega
      have hr4 : (0 : Int) < (l.length : Int) + 1 := by omega
      simp -implicitDefEqProofs [eVC, hne, hcl, hil, hil', hlt, hlt', hle, w1]
      intro _
      refine capSm (e := (91, 3, 40)) (b := b) (o := 0) (n := l.length) (c := cap) (by simp) (by simp) ?_
      simp -implicitDefEqProofs [eVC, hne, hcl, hil, hil', hlt, hlt', hle, w1, hr', hr2, hr3, hr4]
      simp -implicitDefEqProofs [l1, l1', l2, l2', l2'', l3, w3]
      refine CallK.mh (h := one b A) (MSpec.overlaps (tS := 32) (tR := 4) (e := 91) (sz := 3) (by_ := 40) (tag := .no) (rows := [eVC x]) (b := b) (off := (i + 1) * 3) (n := l.length - i) (c := cap - (i + 1)) (cells := A) Tryz.func195 (by kernel_rfl) (by kernel_rfl) (by kernel_rfl) (by kernel_rfl) (by simp) (by omega) (by simp) (by simp [eVC]) (one_self _ _)) (by simp [eVC]) (SubH_one.2 (by simp [Weak.refl])) ?_
      rintro _ h' H ⟨rfl, rfl⟩ - hH -
      have k1 := hH b _ (one_self _ _)
      clear hH
      have hroom2 : Q.length + sp.length = cap * 3 - i * 3 := by
        rw [hA2, List.length_append, List.length_append, hP] at hcl; omega
      have hov := lay_backVC P1 (Q ++ sp) (eVC x) Q (by rw [List.length_append, hroom2, hx3]; omega)
      rw [hP, hx3, ← hA2, show i * 3 + 3 = (i + 1) * 3 by omega] at hov
      obtain ⟨C1, hC1⟩ : ∃ C, overlay A ((i + 1) * 3) Q = C := ⟨_, rfl⟩
      have hC1l : C1.length = cap * 3 := by
        rw [← hC1]; unfold overlay
        rw [List.length_append, List.length_append, List.length_take, List.length_drop, hcl, hQl]; omega
      rw [hC1] at hov
      obtain ⟨C2, hC2⟩ : ∃ C, overlay C1 (i * 3) (eVC x) = C := ⟨_, rfl⟩
      rw [hC2] at hov
      have hC2' := hC2
      have hmin : min (l.length + 1 - i) (l.length - i) = l.length - i := by omega
      simp [overlay, eVC] at hC1 hC2
      simp -implicitDefEqProofs
      refine regionK.modes [b] [.q, .q, .q, .q, .r, .q, .q, .r, .l] follows_mixed (by kernel_rfl) ?_
      simp -implicitDefEqProofs [l1, l1', l2, l2', l2'', l3, hlt, hlt', hr4, hcl, w3, maskH, k1, hq1, hq2, hQd, hmin, hC1]
      refine ⟨⟨by omega, by omega, fun y hy => hQc y hy⟩, ?_⟩
      simp -implicitDefEqProofs [l1, l1', ht1, ht2, hC1l, hC2]
      have hov2 : C2 = W ++ (Q ++ sp).drop (3 + Q.length) := by rw [hov, hins]
      have hC2l : C2.length = cap * 3 := by
        rw [← hC2']; unfold overlay
        rw [List.length_append, List.length_append, List.length_take, List.length_drop, hC1l, hx3]; omega
      have hWl : W.length = (l.length + 1) * 3 := by
        rw [hins, List.length_append, List.length_append, hP, hx3, hQl]; omega
      refine ⟨by omega, one b C2, SubH_one.2 (by simp [Weak.refl]), b, cap, ⟨rfl, rfl⟩, _, by rw [hov2], ?_⟩
      have := congrArg List.length hov2
      rw [List.length_append, hC2l, hWl] at this
      omega
    · have hr' : (cap : Int) < (l.length : Int) + 1 := by omega
      simp -implicitDefEqProofs [eVC, hne, hcl, hil, hil', hlt, hlt', hle, w1]
      intro _
      refine capSm (e := (91, 3, 40)) (b := b) (o := 0) (n := l.length) (c := cap) (by simp) (by simp) ?_
      simp -implicitDefEqProofs [eVC, hne, hcl, hil, hil', hlt, hlt', hle, w1, hr']
      have w2 : IntKind.i64.wrap ((l.length : Int) + 1 - (i : Int)) = ((l.length + 1 - i : Nat) : Int) := by rw [w64 (by omega) (by omega)]; omega
      have hsl : (if 0 < i then some (AV.sm b 0 i cap) else if 0 = (i : Int) then some (AV.sm b 0 0 cap) else none) = some (.sm b 0 i cap) := by
        by_cases h : 0 < i
        · rw [if_pos h]
        · have h2 : i = 0 := by omega
          subst h2; simp
      have hik : i + (l.length + 1 - i) = l.length + 1 := by omega
      simp -implicitDefEqProofs [hsl, w2]
      refine zerosSm (e := 91) (sz := 3) (by_ := 40) (ku := .i64) (z := [eI 0, eI 0, .sl .no []]) (l.length + 1 - i) b i cap A (by decide) (by simp) (by simp) (by simp) rfl (by omega) (by omega) (by simp) (by simp [w1, w2]) (by simp) hcl (by omega) (by omega) (by omega) fun b' c' spare hb' hc' hsp' => ?_
      have nb : ¬ b' = b := by rintro rfl; simp at hb'
      have nb' : ¬ b = b' := fun h => nb h.symm
      have hB : ((A.take (i * 3)).map dead1 ++ spare).length = c' * 3 := by
        rw [List.length_append, List.length_map, List.length_take]; omega
      rw [hik] at hc' ⊢
      have hB2 : (A.take (i * 3)).map dead1 ++ spare = P1 ++ spare := by rw [hA2, ← hP, List.take_left, hPd]
      rw [hB2] at hB ⊢
      have hov := lay_twiceVC P1 spare (eVC x) Q
      rw [hP, hx3] at hov
      have hsl2 : spare.length = c' * 3 - i * 3 := by rw [List.length_append, hP] at hB; omega
      obtain ⟨C1, hC1⟩ : ∃ C, overlay (P1 ++ spare) (i * 3) (eVC x) = C := ⟨_, rfl⟩
      have hC1l : C1.length = c' * 3 := by
        rw [← hC1]; unfold overlay
        rw [List.length_append, List.length_append, List.length_take, List.length_drop, hB, hx3]; omega
      rw [hC1] at hov
      rw [show i * 3 + 3 = (i + 1) * 3 by omega] at hov
      generalize P1 ++ spare = B at *
      obtain ⟨C2, hC2⟩ : ∃ C, overlay C1 ((i + 1) * 3) Q = C := ⟨_, rfl⟩
      rw [hC2] at hov
      have hC2' := hC2
      simp [overlay, eVC] at hC1 hC2
      simp -implicitDefEqProofs [nb, nb', l1, l1', hB, ht1, ht2, hC1]
      refine ⟨by omega, ?_⟩
      refine regionK.modes [b', b] [.q, .q, .q, .q, .r, .q, .q, .r, .l] follows_mixed (by kernel_rfl) ?_
      simp -implicitDefEqProofs [nb, nb', l1, l1', l2, l2', l2'', l3, hlt, hlt', hB, hcl, w3, maskH, hC1l, hq1, hq2, hQd, hC2]
      have hov2 : C2 = W ++ spare.drop ((eVC x).length + Q.length) := by rw [hov, hins, hx3]
      have hC2l : C2.length = c' * 3 := by
        rw [← hC2']; unfold overlay
        rw [List.length_append, List.length_append, List.length_take, List.length_drop, hC1l, hQl]; omega
      have hWl : W.length = (l.length + 1) * 3 := by
        rw [hins, List.length_append, List.length_append, hP, hx3, hQl]; omega
      refine ⟨⟨by omega, by omega, fun y hy => hQc y hy⟩, one b' C2, SubH_one.2 (by simp [Weak.refl]), b', c', ⟨rfl, rfl⟩, _, by rw [hov2], ?_⟩
      have := congrArg List.length hov2
      rw [List.length_append, hC2l, hWl] at this
      omega
end Go.Proofs.YtjbbfiagijjdoaaGreat

/- Contracts: a list with something put in its place (api.ViewCells). Printed by sort/gen.py. No condition. -/
set_option linter.unusedSimpArgs false
set_option linter.unusedVariables false
set_option maxRecDepth 10000
namespace Go.Proofs.YtjbbfiagijjdoaaGreat
open Go Go.Rw Go.Proofs
-- a goal is never to be run by the elaborator
attribute [local irreducible] awp aops aop aopsE aeff

theorem putKVC_new {l : List PVC} {x : PVC} (hs : sortK keyVC l) (hh : hasK keyVC l (keyVC x) = false) : putK keyVC l x = insVC l (posK keyVC l (keyVC x)) x := by
  obtain ⟨h1, h2⟩ := take_posK hs (keyVC x)
  unfold putK insVC
  rw [h1, h2]
  congr 2
  refine List.filter_congr fun y hy => ?_
  have : ¬ keyVC y = keyVC x := fun h => by
    have h3 : hasK keyVC l (keyVC x) = true := by rw [hasK, List.any_eq_true]; exact ⟨y, hy, by simpa using h⟩
    rw [hh] at h3; simp at h3
  by_cases h : keyVC x < keyVC y
  · have : ¬ keyVC y < keyVC x := by omega
    simp [h, this]
  · have : keyVC y < keyVC x := by omega
    simp [h, this]
theorem putKVC_old {l : List PVC} {x : PVC} (hs : sortK keyVC l) (hh : hasK keyVC l (keyVC x) = true) : putK keyVC l x = l.set (posK keyVC l (keyVC x)) x ∧ posK keyVC l (keyVC x) < l.length := by
  obtain ⟨h1, h2⟩ := take_posK hs (keyVC x)
  rcases hasK_at hs (keyVC x) with ⟨y, hy, hk, _⟩ | ⟨_, h3⟩
  · have hlt : posK keyVC l (keyVC x) < l.length := by
      rcases Nat.lt_or_ge (posK keyVC l (keyVC x)) l.length with h | h
      · exact h
      · rw [List.getElem?_eq_none h] at hy; simp at hy
    refine ⟨?_, hlt⟩
    rw [List.set_eq_take_append_cons_drop, if_pos hlt, h1]
    unfold putK
    congr 2
    have hd : l.drop (posK keyVC l (keyVC x)) = y :: l.drop (posK keyVC l (keyVC x) + 1) := by
      rw [List.drop_eq_getElem_cons hlt]; rw [List.getElem?_eq_getElem hlt] at hy; rw [Option.some.inj hy]
    have hsd : (l.drop (posK keyVC l (keyVC x))).Pairwise fun a b => keyVC a < keyVC b := List.Pairwise.sublist (List.drop_sublist _ _) hs
    rw [hd, List.pairwise_cons] at hsd
    have e1 : l.filter (fun z => decide (keyVC x < keyVC z)) = (l.filter (fun z => decide (¬ keyVC z < keyVC x))).filter (fun z => decide (keyVC x < keyVC z)) := by
      rw [List.filter_filter]
      refine List.filter_congr fun z _ => ?_
      by_cases h : keyVC x < keyVC z
      · have : ¬ keyVC z < keyVC x := by omega
        simp [h, this]
      · simp [h]
    rw [e1, ← h2, hd, List.filter_cons_of_neg (by simp [hk])]
    refine List.filter_eq_self.2 fun z hz => ?_
    have := hsd.1 z hz
    simp; omega
  · rw [hh] at h3; simp at h3
theorem putVC_spec (l : List PVC) (x : PVC) (hs : sortK keyVC l) (hl : l.length ≤ 1000000) (hr : ∀ y ∈ l, rightV y.view = true) (hx : rightV x.view = true) :
    ASpec Tryz.prog 102 [.agg [.fn 93 []], .sl .no (rowsVC l), .agg (eVC x)] (fun r => ∃ tag, r = .sl tag (rowsVC (putK keyVC l x))) := by
  refine ASpec.of_awpS Tryz.func102 (by kernel_rfl) rfl (by rw [Tryz.results102]) Tryz.ntmps102 ?_
  simp -implicitDefEqProofs [eVC]
  refine allocK.intro (fun b1 hb1 => ?_)
  simp -implicitDefEqProofs
  refine allocK.intro (fun b2 hb2 => ?_)
  have n12 : ¬ b1 = b2 := by rintro rfl; simp at hb2
  have n21 : ¬ b2 = b1 := fun h => n12 h.symm
  simp -implicitDefEqProofs [n12, n21]
  refine regionK.intro 12 follows_mixed (by kernel_rfl) ?_
  simp -implicitDefEqProofs [n12, n21]
  refine CallQ.with (ofVC_spec x) (by simp [eVC]) ?_
  simp -implicitDefEqProofs [n12, n21]
  refine CallQ.with (placeVC_spec l x.view hs (by omega) hr hx) (by simp [eV]) ?_
  have hpl := posK_le (key := keyVC) l (nameV x.view)
  simp -implicitDefEqProofs [n12, n21]
  have ek : nameV x.view = keyVC x := rfl
  rw [ek] at *
  have hcl := cloneVC_own l (by omega)
  refine CallK.own hcl (by simp) ?_
  rintro r (⟨tag, htag, rfl, hl0⟩ | ⟨hne, rfl⟩)
  · left
    refine ⟨tag, htag, rfl, ?_⟩
    subst hl0
    simp -implicitDefEqProofs [hasK, posK, n12, n21]
    refine CallK.fresh (insertVC_mn x) (by simp [eVC]) ?_
    rintro _ h' H ⟨b, c, sp, rfl, rfl, hsp⟩ - hH -
    have k1 := hH b _ (one_self _ _)
    clear hH
    simp -implicitDefEqProofs
    refine shiftK.freeze (b := b) (len := 1) (cap := c) 6 91 (rowsVC [x]) (by simp) (cells := eVC x ++ sp) k1 (by simpa [rowsVC] using chunksVC [x] sp) (by simp) ?_ ?_
    · rw [List.length_append, show (eVC x).length = 3 from rfl]; exact hsp
    have hp : putK keyVC [] x = [x] := rfl
    simp -implicitDefEqProofs [hp]
  · right
    refine ⟨_, _, _, _, rfl, hne, .inl rfl, fun b cap spare hb hcap hsp => ?_⟩
    have n1 : ¬ b = b1 := by rintro rfl; simp [n12] at hb
    have n1' : ¬ b1 = b := fun h => n1 h.symm
    have n2 : ¬ b = b2 := by rintro rfl; simp at hb
    have n2' : ¬ b2 = b := fun h => n2 h.symm
    have ed := dead2VC l
    have hl0 : 0 < l.length := by
      cases l with
      | nil => exact absurd rfl hne
      | cons => simp
    have hsp2 : l.length * 3 + (spare.map AV.v).length = cap * 3 := by simp at hsp ⊢; omega
    have hcl2 : ((rowsVC l).flatten ++ spare.map AV.v).length = cap * 3 := by rw [List.length_append, flenVC]; exact hsp2
    cases hh : hasK keyVC l (keyVC x)
    · simp -implicitDefEqProofs [n12, n21, n1, n1', n2, n2', ed, hh]
      refine CallK.mh (insertVC_sm l (posK keyVC l (keyVC x)) b cap (spare.map AV.v) x hl0 hpl (by omega) hsp2) (by simp [eVC]) (SubH_one.2 (by simp [Weak.refl])) ?_
      rintro _ h' H ⟨b', c', sp', rfl, rfl, hlen⟩ - hH -
      have k1 := hH b' _ (one_self _ _)
      clear hH
      have hil : (insVC l (posK keyVC l (keyVC x)) x).length = l.length + 1 := by
        unfold insVC
        rw [List.length_append, List.length_take, List.length_cons, List.length_drop]; omega
      rw [putKVC_new hs hh]
      generalize insVC l (posK keyVC l (keyVC x)) x = L at *
      simp -implicitDefEqProofs
      refine shiftK.freeze (b := b') (len := l.length + 1) (cap := c') 6 91 (rowsVC L) (by simp) k1 (chunksVC L sp') (by simp [hil]) ?_ ?_
      · rw [List.length_append, flenVC, hil]; exact hlen
      simp -implicitDefEqProofs
    · obtain ⟨hpe, hlt⟩ := putKVC_old hs hh
      rw [hpe]
      have hset : overlay ((rowsVC l).flatten ++ spare.map AV.v) (posK keyVC l (keyVC x) * 3) (eVC x) = (rowsVC (l.set (posK keyVC l (keyVC x)) x)).flatten ++ spare.map AV.v := by
        rw [flat_set (rowsVC_one l) rfl (by simpa using hlt)]
        simp [rowsVC, List.map_set]
      have hfit : posK keyVC l (keyVC x) * 3 + 3 ≤ ((rowsVC l).flatten ++ spare.map AV.v).length := flat_fits (rowsVC_one l) (by simpa using hlt)
      generalize posK keyVC l (keyVC x) = p at *
      have hlt' : (p : Int) < (l.length : Int) := by omega
      obtain ⟨L, hL⟩ : ∃ L, l.set p x = L := ⟨_, rfl⟩
      have hLl : L.length = l.length := by rw [← hL, List.length_set]
      rw [hL] at hset ⊢
      have hcol : ((rowsVC L).flatten ++ spare.map AV.v).length = cap * 3 := by rw [List.length_append, flenVC, hLl]; exact hsp2
      have hck := chunksVC L (spare.map AV.v)
      generalize (rowsVC L).flatten ++ spare.map AV.v = C2 at *
      simp -implicitDefEqProofs [n12, n21, n1, n1', n2, n2', ed, hh]
      generalize (rowsVC l).flatten ++ spare.map AV.v = C1 at *
      simp [overlay, eVC] at hset
      simp -implicitDefEqProofs [n12, n21, n1, n1', n2, n2', hlt, hlt', hfit, hset]
      refine shiftK.freeze (b := b) (len := l.length) (cap := cap) 6 91 (rowsVC L) (by simp) (by simp) hck (by simp [hLl]) hcol ?_
      simp -implicitDefEqProofs
end Go.Proofs.YtjbbfiagijjdoaaGreat

/- Contracts: where something stands by its view (api.ViewIntent). Printed by sort/gen.py. No condition. -/
set_option linter.unusedSimpArgs false
set_option linter.unusedVariables false
set_option maxRecDepth 10000
namespace Go.Proofs.YtjbbfiagijjdoaaGreat
open Go Go.Rw Go.Proofs
-- a goal is never to be run by the elaborator
attribute [local irreducible] awp aops aop aopsE aeff

@[simp] theorem vTfVI : vT Tryz.prog 103 = some (1, false) := by kernel_rfl
def keyVI (x : PVI) : Int := nameV x.view
def rowsVI (l : List PVI) : List (List AV) := l.map eVI
@[simp] theorem rowsVI_length (l : List PVI) : (rowsVI l).length = l.length := by simp [rowsVI]
@[simp] theorem rowsVI_get (l : List PVI) (i : Nat) : (rowsVI l)[i]? = (l[i]?).map eVI := by simp [rowsVI]
@[simp] theorem rowsVI_nil : rowsVI [] = [] := rfl
@[simp] theorem rowsVI_append (l m : List PVI) : rowsVI l ++ rowsVI m = rowsVI (l ++ m) := by simp [rowsVI]
theorem rowsVI_one (l : List PVI) : ∀ r ∈ rowsVI l, r.length = 4 := by
  intro r hr
  obtain ⟨c, _, rfl⟩ := List.mem_map.1 hr
  rfl
@[simp] theorem rowsVI_rows (l : List PVI) : (∀ r : List AV, r ∈ rowsVI l → r.length = 4) ↔ True := iff_of_true (rowsVI_one l) trivial
theorem ofVI_spec (x : PVI) : ASpec Tryz.prog 80 [.agg (eVI x)] (· = .agg (eV x.view)) := by
  refine ASpec.of_awp Tryz.func80 (by kernel_rfl) rfl (by rw [Tryz.results80]) Tryz.ntmps80 ?_
  simp -implicitDefEqProofs [eVI]
  refine allocK.intro (fun b1 hb1 => ?_)
  simp -implicitDefEqProofs
  refine allocK.intro (fun b2 hb2 => ?_)
  have n12 : ¬ b1 = b2 := by rintro rfl; simp at hb2
  have n21 : ¬ b2 = b1 := fun h => n12 h.symm
  simp -implicitDefEqProofs [n12, n21, eV]
theorem shelvedVI_spec : ASpec Tryz.prog 79 [.fn 80 []] (· = .agg [.fn 80 []]) := by
  refine ASpec.of_awp Tryz.func79 (by kernel_rfl) rfl (by rw [Tryz.results79]) Tryz.ntmps79 ?_
  simp -implicitDefEqProofs
  refine allocK.intro (fun b1 hb1 => ?_)
  simp -implicitDefEqProofs
theorem placeKeyVI_spec (x : PVI) (b : Nat) (n : Int) (h : rightV x.view = true) : MSpec Tryz.prog 142 [.agg (eVI x), eI n, .ptr b 0] (one b [.fn 80 []]) (fun r h' => r = eI (cmpI (keyVI x) n) ∧ h' = one b [.fn 80 []]) := by
  refine MSpec.of_awp Tryz.func142 (by kernel_rfl) rfl (by rw [Tryz.results142]) Tryz.ntmps142 ?_
  simp -implicitDefEqProofs [eVI]
  refine allocK.intro (fun b1 hb1 => ?_)
  have n1 : ¬ b1 = b := by rintro rfl; simp at hb1
  have n2 : ¬ b = b1 := fun h => n1 h.symm
  simp -implicitDefEqProofs [n1, n2]
  refine CallK.with (ofVI_spec x) (by simp [eVI]) ?_
  simp -implicitDefEqProofs [eV]
  refine CallK.with (change_name x.view h) (by simp [eV]) ?_
  simp -implicitDefEqProofs
  refine CallK.eq (compare_int (nameV x.view) n) ?_
  simp -implicitDefEqProofs [n1, n2, keyVI]
def BsVII (l : List PVI) (n : Int) (g : FuncId) (b : Nat) (c : List AV) (t : Nat → AV) (h : Nat → Option (List AV)) : Prop := ∃ i j : Nat, t 0 = .sl .no (rowsVI l) ∧ t 1 = eI n ∧ t 2 = .fn g [.ptr b 0] ∧ t 8 = eI l.length ∧ t 9 = eI i ∧ t 10 = eI j ∧ i ≤ posK keyVI l n ∧ posK keyVI l n ≤ j ∧ j ≤ l.length ∧ h b = some c
def BsVIM (l : List PVI) (n : Int) (g : FuncId) (b : Nat) (c : List AV) (t : Nat → AV) (h : Nat → Option (List AV)) : Prop := t 0 = .sl .no (rowsVI l) ∧ t 1 = eI n ∧ t 2 = .fn g [.ptr b 0] ∧ t 8 = eI l.length ∧ t 9 = eI (posK keyVI l n) ∧ h b = some c
theorem bsearchVI_spec (g : FuncId) (b : Nat) (c : List AV) (l : List PVI) (n : Int) (hs : sortK keyVI l) (hl : l.length ≤ 1000000000) (hf : ∀ x ∈ l, MSpec Tryz.prog g [.agg (eVI x), eI n, .ptr b 0] (one b c) (fun r h' => r = eI (cmpI (keyVI x) n) ∧ h' = one b c)) :
    MSpec Tryz.prog 140 [.sl .no (rowsVI l), eI n, .fn g [.ptr b 0]] (one b c) (fun r h' => r = .tup [eI (posK keyVI l n), .v (.bool (hasK keyVI l n))] ∧ h' = one b c) := by
  have hp := posK_le (key := keyVI) l n
  refine MSpec.of_awp Tryz.func140 (by kernel_rfl) rfl (by rw [Tryz.results140]) Tryz.ntmps140 ?_
  simp -implicitDefEqProofs
  intro _
  refine loopK.post (BsVII l n g b c) (fun t => natOf (t 10) - natOf (t 9)) (BsVIM l n g b c) ?_ ?_ ?_
  · exact ⟨0, l.length, by simp, by simp, by simp, by simp, by simp, by simp, by omega, hp, by omega, by simp⟩
  · rintro t hh ⟨i, j, g0, g1, g2, g8, g9, g10, hi, hj, hjl, hb⟩
    have hm9 : natOf (t 9) = i := by rw [g9]; simp
    have hm10 : natOf (t 10) = j := by rw [g10]; simp
    by_cases hlt : i < j
    · have hlt' : (i : Int) < (j : Int) := by omega
      have w1 : IntKind.i64.wrap ((i : Int) + (j : Int)) = (i : Int) + (j : Int) := w64 (by omega) (by omega)
      have w2 : IntKind.u64.wrap ((i : Int) + (j : Int)) = (i : Int) + (j : Int) := by
        simp [IntKind.wrap, IntKind.bits, IntKind.signed]; omega
      obtain ⟨m, hm⟩ : ∃ m : Nat, m = (i + j) / 2 := ⟨_, rfl⟩
      have w3 : ((i : Int) + (j : Int)) / 2 = (m : Int) := by omega
      have w4 : IntKind.i64.wrap (m : Int) = (m : Int) := w64 (by omega) (by omega)
      have w4' : IntKind.u64.wrap (m : Int) = (m : Int) := by
        simp [IntKind.wrap, IntKind.bits, IntKind.signed]; omega
      have w5 : IntKind.i64.wrap ((m : Int) + 1) = ((m + 1 : Nat) : Int) := by rw [w64 (by omega) (by omega)]; omega
      have hml : m < l.length := by omega
      obtain ⟨x, hx⟩ : ∃ x, l[m]? = some x := ⟨l[m], by simp [hml]⟩
      have hpk := posK_lt hs (n := n) hx
      have s1 : Int.fdiv ((i : Int) + (j : Int)) (2 ^ min 1 IntKind.u64.bits) = (m : Int) := by
        have := shr_u64 (i + j) 1 (by omega)
        rw [hm]
        simpa using this
      have hml' : (m : Int) < (l.length : Int) := by omega
      simp -implicitDefEqProofs [g0, g1, g2, g9, g10, hlt', hlt, w1, w2, w3, w4, w4', hx, hml', eVI, aNum_shr, s1]
      refine CallK.one (hf x (List.mem_of_getElem? hx)) (by simp [eVI]) (by simp [hb, Weak.refl]) ?_
      have hcm : (cmpI (keyVI x) n < 0) ↔ keyVI x < n := by
        unfold cmpI
        by_cases h1 : keyVI x < n
        · simp [h1]
        · by_cases h2 : n < keyVI x <;> simp [h1, h2]
      by_cases hk : keyVI x < n
      · have hk1 := hcm.2 hk
        have hk2 := hpk.1 hk
        simp -implicitDefEqProofs [hk1, w5]
        exact ⟨⟨m + 1, j, by simp [g0], by simp [g1], by simp [g2], by simp [g8], by simp, by simp [g10], by omega, hj, hjl, by simp⟩, by first | omega | (simp [g9, g10]; omega)⟩
      · have hk1 : ¬ cmpI (keyVI x) n < 0 := fun h => hk (hcm.1 h)
        have hk2 : posK keyVI l n ≤ m := by
          rcases Nat.lt_or_ge m (posK keyVI l n) with h | h
          · exact absurd (hpk.2 h) hk
          · exact h
        simp -implicitDefEqProofs [hk1]
        exact ⟨⟨i, m, by simp [g0], by simp [g1], by simp [g2], by simp [g8], by simp [g9], by simp, hi, hk2, by omega, by simp⟩, by first | omega | (simp [g9, g10]; omega) | (simp [g9, g10, upd]; omega)⟩
    · have hlt' : ¬ (i : Int) < (j : Int) := by omega
      obtain rfl : i = posK keyVI l n := by omega
      simp -implicitDefEqProofs [g9, g10, hlt', hlt]
      exact ⟨by simp [g0], by simp [g1], by simp [g2], by simp [g8], by simp [g9], hb⟩
  rintro t hh ⟨g0, g1, g2, g8, g9, hb⟩
  have hcz : ∀ x : PVI, (cmpI (keyVI x) n = 0) ↔ keyVI x = n := fun x => by
    unfold cmpI
    by_cases h1 : keyVI x < n
    · have h3 : ¬ keyVI x = n := by omega
      simp [h1, h3]
    · by_cases h2 : n < keyVI x
      · have h3 : ¬ keyVI x = n := by omega
        simp [h1, h2, h3]
      · have h3 : keyVI x = n := by omega
        simp [h3]
  have hat := hasK_at hs n
  generalize posK keyVI l n = p at *
  by_cases hlt : p < l.length
  · have hlt' : (p : Int) < (l.length : Int) := by omega
    obtain ⟨x, hx⟩ : ∃ x, l[p]? = some x := ⟨l[p], by simp [hlt]⟩
    simp -implicitDefEqProofs [g0, g1, g2, g8, g9, hlt', hx, eVI]
    refine CallK.one (hf x (List.mem_of_getElem? hx)) (by simp [eVI]) (by simp [hb, Weak.refl]) ?_
    by_cases hk : keyVI x = n
    · have h1 := (hcz x).2 hk
      have h2 : hasK keyVI l n = true := by
        rcases hat with ⟨y, h3, h4, h5⟩ | ⟨h3, h4⟩
        · exact h5
        · exact absurd hk (h3 x hx)
      simp -implicitDefEqProofs [h1, h2, g9, hb, Weak.refl]
    · have h1 : ¬ cmpI (keyVI x) n = 0 := fun h => hk ((hcz x).1 h)
      have h2 : hasK keyVI l n = false := by
        rcases hat with ⟨y, h3, h4, h5⟩ | ⟨h3, h4⟩
        · rw [hx] at h3; cases h3; exact absurd h4 hk
        · exact h4
      simp -implicitDefEqProofs [h1, h2, g9, hb, Weak.refl]
  · have hlt' : ¬ (p : Int) < (l.length : Int) := by omega
    have h2 : hasK keyVI l n = false := by
      rcases hat with ⟨y, h3, h4, h5⟩ | ⟨h3, h4⟩
      · rw [List.getElem?_eq_none (by omega)] at h3; simp at h3
      · exact h4
    simp -implicitDefEqProofs [g0, g1, g2, g8, g9, hlt', h2, hb, Weak.refl]
theorem placeVI_spec (l : List PVI) (v : PView) (hs : sortK keyVI l) (hl : l.length ≤ 1000000000) (hr : ∀ x ∈ l, rightV x.view = true) (hv : rightV v = true) :
    ASpec Tryz.prog 81 [.agg [.fn 80 []], .sl .no (rowsVI l), .agg (eV v)] (· = .tup [eI (posK keyVI l (nameV v)), .v (.bool (hasK keyVI l (nameV v)))]) := by
  refine ASpec.of_awp Tryz.func81 (by kernel_rfl) rfl (by rw [Tryz.results81]) Tryz.ntmps81 ?_
  simp -implicitDefEqProofs [eV]
  refine allocK.intro (fun b1 hb1 => ?_)
  simp -implicitDefEqProofs
  refine allocK.intro (fun b2 hb2 => ?_)
  have n12 : ¬ b1 = b2 := by rintro rfl; simp at hb2
  have n21 : ¬ b2 = b1 := fun h => n12 h.symm
  simp -implicitDefEqProofs [n12, n21]
  refine CallK.with (change_name v hv) (by simp [eV]) ?_
  simp -implicitDefEqProofs [n12, n21]
  refine CallK.one (bsearchVI_spec 142 b1 [.fn 80 []] l (nameV v) hs hl (fun x hx => placeKeyVI_spec x b1 (nameV v) (hr x hx))) rfl (by simp [n12, Weak.refl]) ?_
  simp -implicitDefEqProofs
end Go.Proofs.YtjbbfiagijjdoaaGreat

/- Contracts: something is put in its place (api.ViewIntent). Printed by sort/gen.py. No condition. -/
set_option linter.unusedSimpArgs false
set_option linter.unusedVariables false
set_option maxRecDepth 10000
namespace Go.Proofs.YtjbbfiagijjdoaaGreat
open Go Go.Rw Go.Proofs
-- a goal is never to be run by the elaborator
attribute [local irreducible] awp aops aop aopsE aeff

theorem deadVI (l : List PVI) : (rowsVI l).flatten.map dead1 = (rowsVI l).flatten := by
  induction l with
  | nil => rfl
  | cons x l ih => simp [rowsVI, eVI, dead1] at *; try exact ih
theorem dead2VI (l : List PVI) : (rowsVI l).map (List.map dead1) = rowsVI l := by
  induction l with
  | nil => rfl
  | cons x l ih => simp [rowsVI, eVI, dead1] at *; try exact ih
theorem flenVI (l : List PVI) : (rowsVI l).flatten.length = l.length * 4 := by
  rw [flat_len (rowsVI_one l)]; simp
theorem chunksVI (l : List PVI) (sp : List AV) : chunks ((rowsVI l).flatten ++ sp) (rowsVI l) 4 := by
  refine ⟨rowsVI_one l, ?_, ?_, ?_⟩
  · rw [show (rowsVI l).length * 4 = (rowsVI l).flatten.length by rw [flenVI]; simp, List.take_left, deadVI]
  · rw [List.length_append, flenVI]; simp
  · intro r hr x hx
    obtain ⟨c, _, rfl⟩ := List.mem_map.1 hr
    simp [eVI] at hx
    rcases hx with rfl | rfl | rfl | rfl <;> rfl
def ClVIR (l : List PVI) (r : AV) : Prop := (∃ tag, (tag = .nil ∨ tag = .full) ∧ r = .sl tag [] ∧ l = []) ∨ (rowsVI l ≠ [] ∧ r = .sl (.live 93 4 true) (rowsVI l))
theorem cloneVI_own (l : List PVI) (hl : l.length * 32 ≤ 140737488355328) : ASpec Tryz.prog 128 [.sl .no (rowsVI l)] (ClVIR l) := by
  refine ASpec.of_awp Tryz.func128 (by kernel_rfl) rfl (by rw [Tryz.results128]) Tryz.ntmps128 ?_
  simp -implicitDefEqProofs
  refine nilK.intro (fun h => ?_) ?_
  · have h' : l = [] := by simpa [rowsVI] using h
    simp -implicitDefEqProofs [h]; exact .inl ⟨_, .inl rfl, rfl, h'⟩
  · simp -implicitDefEqProofs [hl]
    by_cases h : l = []
    · subst h; exact .inl ⟨_, .inr rfl, rfl, rfl⟩
    · have h' : rowsVI l ≠ [] := by simpa [rowsVI] using h
      exact .inr ⟨h', by rw [appTag_full h']⟩
theorem insertVI_mn (x : PVI) : MSpec Tryz.prog 159 [.mn, eI 0, .sl .no [eVI x]] (fun _ => none) (fun r h' => ∃ b c sp, r = .sm b 0 1 c ∧ h' = one b (eVI x ++ sp) ∧ 4 + sp.length = c * 4) := by
  refine MSpec.of_awp Tryz.func159 (by kernel_rfl) rfl (by rw [Tryz.results159]) Tryz.ntmps159 ?_
  simp -implicitDefEqProofs [eVI]
  refine growMnK.intro (fun h => by simp at h) fun _ b c sp hb hc hsp => ?_
  simp -implicitDefEqProofs
  simp at hsp
  exact ⟨_, SubH_one.2 (by simp; exact Weak.refl _), b, c, ⟨rfl, rfl⟩, sp, rfl, by omega⟩
theorem lay_atVI (P T X : List AV) : overlay (P ++ T) P.length X = P ++ X ++ T.drop X.length := by
  unfold overlay
  rw [List.take_left, List.drop_append, List.drop_of_length_le (by omega), List.nil_append, Nat.add_sub_cancel_left]
theorem lay_twiceVI (P T X Y : List AV) : overlay (overlay (P ++ T) P.length X) (P.length + X.length) Y = P ++ X ++ Y ++ T.drop (X.length + Y.length) := by
  rw [lay_atVI, ← List.length_append, lay_atVI, List.drop_drop]
theorem lay_backVI (P T R Q : List AV) (h : R.length ≤ T.length) : overlay (overlay (P ++ T) (P.length + R.length) Q) P.length R = P ++ R ++ Q ++ T.drop (R.length + Q.length) := by
  have e : overlay (P ++ T) (P.length + R.length) Q = P ++ (T.take R.length ++ (Q ++ T.drop (R.length + Q.length))) := by
    unfold overlay
    rw [List.take_append, List.take_of_length_le (by omega), Nat.add_sub_cancel_left, List.drop_append, List.drop_of_length_le (by omega), List.nil_append, show P.length + R.length + Q.length - P.length = R.length + Q.length by omega]
    simp only [List.append_assoc]
  rw [e, lay_atVI, List.drop_append, List.drop_of_length_le (by rw [List.length_take]; omega), List.nil_append, List.length_take, Nat.min_eq_left h, Nat.sub_self, List.drop_zero]
  simp only [List.append_assoc]
/-- behind an insertion -/
def insVI (l : List PVI) (i : Nat) (x : PVI) : List PVI := l.take i ++ x :: l.drop i
theorem insertVI_sm (l : List PVI) (i b cap : Nat) (sp : List AV) (x : PVI) (h0 : 0 < l.length) (hi : i ≤ l.length) (hl : l.length ≤ 1000000000) (hsp : l.length * 4 + sp.length = cap * 4) :
    MSpec Tryz.prog 159 [.sm b 0 l.length cap, eI i, .sl .no [eVI x]] (one b ((rowsVI l).flatten ++ sp)) (fun r h' => ∃ b' c' sp', r = .sm b' 0 (l.length + 1) c' ∧ h' = one b' ((rowsVI (insVI l i x)).flatten ++ sp') ∧ (l.length + 1) * 4 + sp'.length = c' * 4) := by
  refine MSpec.of_awp Tryz.func159 (by kernel_rfl) rfl (by rw [Tryz.results159]) Tryz.ntmps159 ?_
  have hlen := flenVI l
  have hcl : ((rowsVI l).flatten ++ sp).length = cap * 4 := by rw [List.length_append, hlen]; exact hsp
  have w1 : IntKind.i64.wrap ((l.length : Int) + 1) = ((l.length + 1 : Nat) : Int) := by rw [w64 (by omega) (by omega)]; omega
  generalize hA : (rowsVI l).flatten ++ sp = A at *
  have hne : ¬ l = [] := by rintro rfl; simp at h0
  by_cases hil : i = l.length
  · subst hil
    simp -implicitDefEqProofs [eVI, hne, hcl]
    intro _
    refine ⟨by omega, growSmK.intro fun b' c' spare hb' hc' hsp' => ?_⟩
    have htk : (A.take (l.length * 4)).map dead1 = (rowsVI l).flatten := by rw [← hA, ← hlen, List.take_left, deadVI]
    have hfin : (A.take (l.length * 4)).map dead1 ++ [eVI x].flatten.map dead1 ++ spare = (rowsVI (insVI l l.length x)).flatten ++ spare := by
      rw [htk]; simp [insVI, rowsVI, eVI, dead1]
    simp only [eVI] at hfin
    rw [hfin]
    simp -implicitDefEqProofs
    simp at hsp'
    exact ⟨_, SubH_one.2 (by simp; exact Weak.refl _), b', c', ⟨rfl, rfl⟩, spare, rfl, by omega⟩
  · have hlt : i < l.length := by omega
    have hil' : ¬ (i : Int) = (l.length : Int) := by omega
    have hlt' : (i : Int) < (l.length : Int) := by omega
    have hle : i ≤ l.length := hi
    have hti : (l.take i).length = i := by rw [List.length_take]; omega
    have hP : (rowsVI (l.take i)).flatten.length = i * 4 := by rw [flenVI, hti]
    have hQl : (rowsVI (l.drop i)).flatten.length = (l.length - i) * 4 := by rw [flenVI, List.length_drop]
    have hsplit : (rowsVI l).flatten = (rowsVI (l.take i)).flatten ++ (rowsVI (l.drop i)).flatten := by
      rw [← List.flatten_append, rowsVI_append, List.take_append_drop]
    have hins : (rowsVI (insVI l i x)).flatten = (rowsVI (l.take i)).flatten ++ eVI x ++ (rowsVI (l.drop i)).flatten := by
      simp [insVI, rowsVI]
    have hA2 : A = (rowsVI (l.take i)).flatten ++ ((rowsVI (l.drop i)).flatten ++ sp) := by rw [← hA, hsplit, List.append_assoc]
    have hPd := deadVI (l.take i)
    have hQd := deadVI (l.drop i)
    have hQc : ∀ x ∈ (rowsVI (l.drop i)).flatten, cellAV x = true := by
      intro y hy
      obtain ⟨r, hr, hy⟩ := List.mem_flatten.1 hy
      obtain ⟨c, _, rfl⟩ := List.mem_map.1 hr
      simp [eVI] at hy
      rcases hy with rfl | rfl | rfl | rfl <;> rfl
    generalize (rowsVI (insVI l i x)).flatten = W at *
    generalize (rowsVI (l.take i)).flatten = P1 at *
    generalize (rowsVI (l.drop i)).flatten = Q at *
    have hx3 : (eVI x).length = 4 := rfl
    have hq1 : (A.drop (i * 4)).take ((l.length - i) * 4) = Q := by rw [hA2, ← hP, List.drop_left, ← hQl, List.take_left]
    have hq2 : ((A.map dead1).drop (i * 4)).take ((l.length - i) * 4) = Q := by rw [← List.map_drop, ← List.map_take, hq1, hQd]
    have ht1 : ∀ r : List AV, [r].take (l.length + 1 - i) = [r] := fun r => List.take_of_length_le (by simp; omega)
    have ht2 : [4].take (l.length + 1 - i) = [4] := List.take_of_length_le (by simp; omega)
    have w3 : IntKind.i64.wrap ((i : Int) + 1) = ((i + 1 : Nat) : Int) := by rw [w64 (by omega) (by omega)]; omega
    have l1 : i < l.length + 1 := by omega
    have l1' : (i : Int) < (l.length : Int) + 1 := by omega
    have l2 : i + 1 < l.length + 1 := by omega
    have l2' : (i : Int) + 1 < (l.length : Int) + 1 := by omega
    have l2'' : (i : Int) + 1 ≤ (l.length : Int) := by omega
    have l3 : (0 : Int) ≤ (i : Int) + 1 := by omega
    by_cases hroom : l.length + 1 ≤ cap
    · have hr' : ¬ (cap : Int) < (l.length : Int) + 1 := by omega
      have hr2 : (l.length : Int) + 1 ≤ (cap : Int) := by omega
      have hr3 : (l.length : Int) + 1 ≤ 281474976710656 := by omega
      have hr4 : (0 : Int) < (l.length : Int) + 1 := by omega
      simp -implicitDefEqProofs [eVI, hne, hcl, hil, hil', hlt, hlt', hle, w1]
      intro _
      refine capSm (e := (93, 4, 32)) (b := b) (o := 0) (n := l.length) (c := cap) (by simp) (by simp) ?_
      simp -implicitDefEqProofs [eVI, hne, hcl, hil, hil', hlt, hlt', hle, w1, hr', hr2, hr3, hr4]
      simp -implicitDefEqProofs [l1, l1', l2, l2', l2'', l3, w3]
      refine CallK.mh (h := one b A) (MSpec.overlaps (tS := 33) (tR := 4) (e := 93) (sz := 4) (by_ := 32) (tag := .no) (rows := [eVI x]) (b := b) (off := (i + 1) * 4) (n := l.length - i) (c := cap - (i + 1)) (cells := A) Tryz.func197 (by kernel_rfl) (by kernel_rfl) (by kernel_rfl) (by kernel_rfl) (by simp) (by omega) (by simp) (by simp [eVI]) (one_self _ _)) (by simp [eVI]) (SubH_one.2 (by simp [Weak.refl])) ?_
      rintro _ h' H ⟨rfl, rfl⟩ - hH -
      have k1 := hH b _ (one_self _ _)
      clear hH
      have hroom2 : Q.length + sp.length = cap * 4 - i * 4 := by
        rw [hA2, List.length_append, List.length_append, hP] at hcl; omega
      have hov := lay_backVI P1 (Q ++ sp) (eVI x) Q (by rw [List.length_append, hroom2, hx3]; omega)
      rw [hP, hx3, ← hA2, show i * 4 + 4 = (i + 1) * 4 by omega] at hov
      obtain ⟨C1, hC1⟩ : ∃ C, overlay A ((i + 1) * 4) Q = C := ⟨_, rfl⟩
      have hC1l : C1.length = cap * 4 := by
        rw [← hC1]; unfold overlay
        rw [List.length_append, List.length_append, List.length_take, List.length_drop, hcl, hQl]; omega
      rw [hC1] at hov
      obtain ⟨C2, hC2⟩ : ∃ C, overlay C1 (i * 4) (eVI x) = C := ⟨_, rfl⟩
      rw [hC2] at hov
      have hC2' := hC2
      have hmin : min (l.length + 1 - i) (l.length - i) = l.length - i := by omega
      simp [overlay, eVI] at hC1 hC2
      simp -implicitDefEqProofs
      refine regionK.modes [b] [.q, .q, .q, .q, .r, .q, .q, .r, .l] follows_mixed (by kernel_rfl) ?_
      simp -implicitDefEqProofs [l1, l1', l2, l2', l2'', l3, hlt, hlt', hr4, hcl, w3, maskH, k1, hq1, hq2, hQd, hmin, hC1]
      refine ⟨⟨by omega, by omega, fun y hy => hQc y hy⟩, ?_⟩
      simp -implicitDefEqProofs [l1, l1', ht1, ht2, hC1l, hC2]
      have hov2 : C2 = W ++ (Q ++ sp).drop (4 + Q.length) := by rw [hov, hins]
      have hC2l : C2.length = cap * 4 := by
        rw [← hC2']; unfold overlay
        rw [List.length_append, List.length_append, List.length_take, List.length_drop, hC1l, hx3]; omega
      have hWl : W.length = (l.length + 1) * 4 := by
        rw [hins, List.length_append, List.length_append, hP, hx3, hQl]; omega
      refine ⟨by omega, one b C2, SubH_one.2 (by simp [Weak.refl]), b, cap, ⟨rfl, rfl⟩, _, by rw [hov2], ?_⟩
      have := congrArg List.length hov2
      rw [List.length_append, hC2l, hWl] at this
      omega
    · have hr' : (cap : Int) < (l.length : Int) + 1 := by omega
      simp -implicitDefEqProofs [eVI, hne, hcl, hil, hil', hlt, hlt', hle, w1]
      intro _
      refine capSm (e := (93, 4, 32)) (b := b) (o := 0) (n := l.length) (c := cap) (by simp) (by simp) ?_
      simp -implicitDefEqProofs [eVI, hne, hcl, hil, hil', hlt, hlt', hle, w1, hr']
      have w2 : IntKind.i64.wrap ((l.length : Int) + 1 - (i : Int)) = ((l.length + 1 - i : Nat) : Int) := by rw [w64 (by omega) (by omega)]; omega
      have hsl : (if 0 < i then some (AV.sm b 0 i cap) else if 0 = (i : Int) then some (AV.sm b 0 0 cap) else none) = some (.sm b 0 i cap) := by
        by_cases h : 0 < i
        · rw [if_pos h]
        · have h2 : i = 0 := by omega
          subst h2; simp
      have hik : i + (l.length + 1 - i) = l.length + 1 := by omega
      simp -implicitDefEqProofs [hsl, w2]
      refine zerosSm (e := 93) (sz := 4) (by_ := 32) (ku := .i64) (z := [eI 0, eI 0, eI 0, eI 0]) (l.length + 1 - i) b i cap A (by decide) (by simp) (by simp) (by simp) rfl (by omega) (by omega) (by simp) (by simp [w1, w2]) (by simp) hcl (by omega) (by omega) (by omega) fun b' c' spare hb' hc' hsp' => ?_
      have nb : ¬ b' = b := by rintro rfl; simp at hb'
      have nb' : ¬ b = b' := fun h => nb h.symm
      have hB : ((A.take (i * 4)).map dead1 ++ spare).length = c' * 4 := by
        rw [List.length_append, List.length_map, List.length_take]; omega
      rw [hik] at hc' ⊢
      have hB2 : (A.take (i * 4)).map dead1 ++ spare = P1 ++ spare := by rw [hA2, ← hP, List.take_left, hPd]
      rw [hB2] at hB ⊢
      have hov := lay_twiceVI P1 spare (eVI x) Q
      rw [hP, hx3] at hov
      have hsl2 : spare.length = c' * 4 - i * 4 := by rw [List.length_append, hP] at hB; omega
      obtain ⟨C1, hC1⟩ : ∃ C, overlay (P1 ++ spare) (i * 4) (eVI x) = C := ⟨_, rfl⟩
      have hC1l : C1.length = c' * 4 := by
        rw [← hC1]; unfold overlay
        rw [List.length_append, List.length_append, List.length_take, List.length_drop, hB, hx3]; omega
      rw [hC1] at hov
      rw [show i * 4 + 4 = (i + 1) * 4 by omega] at hov
      generalize P1 ++ spare = B at *
      obtain ⟨C2, hC2⟩ : ∃ C, overlay C1 ((i + 1) * 4) Q = C := ⟨_, rfl⟩
      rw [hC2] at hov
      have hC2' := hC2
      simp [overlay, eVI] at hC1 hC2
      simp -implicitDefEqProofs [nb, nb', l1, l1', hB, ht1, ht2, hC1]
      refine ⟨by omega, ?_⟩
      refine regionK.modes [b', b] [.q, .q, .q, .q, .r, .q, .q, .r, .l] follows_mixed (by kernel_rfl) ?_
      simp -implicitDefEqProofs [nb, nb', l1, l1', l2, l2', l2'', l3, hlt, hlt', hB, hcl, w3, maskH, hC1l, hq1, hq2, hQd, hC2]
      have hov2 : C2 = W ++ spare.drop ((eVI x).length + Q.length) := by rw [hov, hins, hx3]
      have hC2l : C2.length = c' * 4 := by
        rw [← hC2']; unfold overlay
        rw [List.length_append, List.length_append, List.length_take, List.length_drop, hC1l, hQl]; omega
      have hWl : W.length = (l.length + 1) * 4 := by
        rw [hins, List.length_append, List.length_append, hP, hx3, hQl]; omega
      refine ⟨⟨by omega, by omega, fun y hy => hQc y hy⟩, one b' C2, SubH_one.2 (by simp [Weak.refl]), b', c', ⟨rfl, rfl⟩, _, by rw [hov2], ?_⟩
      have := congrArg List.length hov2
      rw [List.length_append, hC2l, hWl] at this
      omega
end Go.Proofs.YtjbbfiagijjdoaaGreat

/- Contracts: a list with something put in its place (api.ViewIntent). Printed by sort/gen.py. No condition. -/
set_option linter.unusedSimpArgs false
set_option linter.unusedVariables false
set_option maxRecDepth 10000
namespace Go.Proofs.YtjbbfiagijjdoaaGreat
open Go Go.Rw Go.Proofs
-- a goal is never to be run by the elaborator
attribute [local irreducible] awp aops aop aopsE aeff

theorem putKVI_new {l : List PVI} {x : PVI} (hs : sortK keyVI l) (hh : hasK keyVI l (keyVI x) = false) : putK keyVI l x = insVI l (posK keyVI l (keyVI x)) x := by
  obtain ⟨h1, h2⟩ := take_posK hs (keyVI x)
  unfold putK insVI
  rw [h1, h2]
  congr 2
  refine List.filter_congr fun y hy => ?_
  have : ¬ keyVI y = keyVI x := fun h => by
    have h3 : hasK keyVI l (keyVI x) = true := by rw [hasK, List.any_eq_true]; exact ⟨y, hy, by simpa using h⟩
    rw [hh] at h3; simp at h3
  by_cases h : keyVI x < keyVI y
  · have : ¬ keyVI y < keyVI x := by omega
    simp [h, this]
  · have : keyVI y < keyVI x := by omega
    simp [h, this]
theorem putKVI_old {l : List PVI} {x : PVI} (hs : sortK keyVI l) (hh : hasK keyVI l (keyVI x) = true) : putK keyVI l x = l.set (posK keyVI l (keyVI x)) x ∧ posK keyVI l (keyVI x) < l.length := by
  obtain ⟨h1, h2⟩ := take_posK hs (keyVI x)
  rcases hasK_at hs (keyVI x) with ⟨y, hy, hk, _⟩ | ⟨_, h3⟩
  · have hlt : posK keyVI l (keyVI x) < l.length := by
      rcases Nat.lt_or_ge (posK keyVI l (keyVI x)) l.length with h | h
      · exact h
      · rw [List.getElem?_eq_none h] at hy; simp at hy
    refine ⟨?_, hlt⟩
    rw [List.set_eq_take_append_cons_drop, if_pos hlt, h1]
    unfold putK
    congr 2
    have hd : l.drop (posK keyVI l (keyVI x)) = y :: l.drop (posK keyVI l (keyVI x) + 1) := by
      rw [List.drop_eq_getElem_cons hlt]; rw [List.getElem?_eq_getElem hlt] at hy; rw [Option.some.inj hy]
    have hsd : (l.drop (posK keyVI l (keyVI x))).Pairwise fun a b => keyVI a < keyVI b := List.Pairwise.sublist (List.drop_sublist _ _) hs
    rw [hd, List.pairwise_cons] at hsd
    have e1 : l.filter (fun z => decide (keyVI x < keyVI z)) = (l.filter (fun z => decide (¬ keyVI z < keyVI x))).filter (fun z => decide (keyVI x < keyVI z)) := by
      rw [List.filter_filter]
      refine List.filter_congr fun z _ => ?_
      by_cases h : keyVI x < keyVI z
      · have : ¬ keyVI z < keyVI x := by omega
        simp [h, this]
      · simp [h]
    rw [e1, ← h2, hd, List.filter_cons_of_neg (by simp [hk])]
    refine List.filter_eq_self.2 fun z hz => ?_
    have := hsd.1 z hz
    simp; omega
  · rw [hh] at h3; simp at h3
theorem putVI_spec (l : List PVI) (x : PVI) (hs : sortK keyVI l) (hl : l.length ≤ 1000000) (hr : ∀ y ∈ l, rightV y.view = true) (hx : rightV x.view = true) :
    ASpec Tryz.prog 103 [.agg [.fn 80 []], .sl .no (rowsVI l), .agg (eVI x)] (fun r => ∃ tag, r = .sl tag (rowsVI (putK keyVI l x))) := by
  refine ASpec.of_awpS Tryz.func103 (by kernel_rfl) rfl (by rw [Tryz.results103]) Tryz.ntmps103 ?_
  simp -implicitDefEqProofs [eVI]
  refine allocK.intro (fun b1 hb1 => ?_)
  simp -implicitDefEqProofs
  refine allocK.intro (fun b2 hb2 => ?_)
  have n12 : ¬ b1 = b2 := by rintro rfl; simp at hb2
  have n21 : ¬ b2 = b1 := fun h => n12 h.symm
  simp -implicitDefEqProofs [n12, n21]
  refine regionK.intro 12 follows_mixed (by kernel_rfl) ?_
  simp -implicitDefEqProofs [n12, n21]
  refine CallQ.with (ofVI_spec x) (by simp [eVI]) ?_
  simp -implicitDefEqProofs [n12, n21]
  refine CallQ.with (placeVI_spec l x.view hs (by omega) hr hx) (by simp [eV]) ?_
  have hpl := posK_le (key := keyVI) l (nameV x.view)
  simp -implicitDefEqProofs [n12, n21]
  have ek : nameV x.view = keyVI x := rfl
  rw [ek] at *
  have hcl := cloneVI_own l (by omega)
  refine CallK.own hcl (by simp) ?_
  rintro r (⟨tag, htag, rfl, hl0⟩ | ⟨hne, rfl⟩)
  · left
    refine ⟨tag, htag, rfl, ?_⟩
    subst hl0
    simp -implicitDefEqProofs [hasK, posK, n12, n21]
    refine CallK.fresh (insertVI_mn x) (by simp [eVI]) ?_
    rintro _ h' H ⟨b, c, sp, rfl, rfl, hsp⟩ - hH -
    have k1 := hH b _ (one_self _ _)
    clear hH
    simp -implicitDefEqProofs
    refine shiftK.freeze (b := b) (len := 1) (cap := c) 6 93 (rowsVI [x]) (by simp) (cells := eVI x ++ sp) k1 (by simpa [rowsVI] using chunksVI [x] sp) (by simp) ?_ ?_
    · rw [List.length_append, show (eVI x).length = 4 from rfl]; exact hsp
    have hp : putK keyVI [] x = [x] := rfl
    simp -implicitDefEqProofs [hp]
  · right
    refine ⟨_, _, _, _, rfl, hne, .inl rfl, fun b cap spare hb hcap hsp => ?_⟩
    have n1 : ¬ b = b1 := by rintro rfl; simp [n12] at hb
    have n1' : ¬ b1 = b := fun h => n1 h.symm
    have n2 : ¬ b = b2 := by rintro rfl; simp at hb
    have n2' : ¬ b2 = b := fun h => n2 h.symm
    have ed := dead2VI l
    have hl0 : 0 < l.length := by
      cases l with
      | nil => exact absurd rfl hne
      | cons => simp
    have hsp2 : l.length * 4 + (spare.map AV.v).length = cap * 4 := by simp at hsp ⊢; omega
    have hcl2 : ((rowsVI l).flatten ++ spare.map AV.v).length = cap * 4 := by rw [List.length_append, flenVI]; exact hsp2
    cases hh : hasK keyVI l (keyVI x)
    · simp -implicitDefEqProofs [n12, n21, n1, n1', n2, n2', ed, hh]
      refine CallK.mh (insertVI_sm l (posK keyVI l (keyVI x)) b cap (spare.map AV.v) x hl0 hpl (by omega) hsp2) (by simp [eVI]) (SubH_one.2 (by simp [Weak.refl])) ?_
      rintro _ h' H ⟨b', c', sp', rfl, rfl, hlen⟩ - hH -
      have k1 := hH b' _ (one_self _ _)
      clear hH
      have hil : (insVI l (posK keyVI l (keyVI x)) x).length = l.length + 1 := by
        unfold insVI
        rw [List.length_append, List.length_take, List.length_cons, List.length_drop]; omega
      rw [putKVI_new hs hh]
      generalize insVI l (posK keyVI l (keyVI x)) x = L at *
      simp -implicitDefEqProofs
      refine shiftK.freeze (b := b') (len := l.length + 1) (cap := c') 6 93 (rowsVI L) (by simp) k1 (chunksVI L sp') (by simp [hil]) ?_ ?_
      · rw [List.length_append, flenVI, hil]; exact hlen
      simp -implicitDefEqProofs
    · obtain ⟨hpe, hlt⟩ := putKVI_old hs hh
      rw [hpe]
      have hset : overlay ((rowsVI l).flatten ++ spare.map AV.v) (posK keyVI l (keyVI x) * 4) (eVI x) = (rowsVI (l.set (posK keyVI l (keyVI x)) x)).flatten ++ spare.map AV.v := by
        rw [flat_set (rowsVI_one l) rfl (by simpa using hlt)]
        simp [rowsVI, List.map_set]
      have hfit : posK keyVI l (keyVI x) * 4 + 4 ≤ ((rowsVI l).flatten ++ spare.map AV.v).length := flat_fits (rowsVI_one l) (by simpa using hlt)
      generalize posK keyVI l (keyVI x) = p at *
      have hlt' : (p : Int) < (l.length : Int) := by omega
      obtain ⟨L, hL⟩ : ∃ L, l.set p x = L := ⟨_, rfl⟩
      have hLl : L.length = l.length := by rw [← hL, List.length_set]
      rw [hL] at hset ⊢
      have hcol : ((rowsVI L).flatten ++ spare.map AV.v).length = cap * 4 := by rw [List.length_append, flenVI, hLl]; exact hsp2
      have hck := chunksVI L (spare.map AV.v)
      generalize (rowsVI L).flatten ++ spare.map AV.v = C2 at *
      simp -implicitDefEqProofs [n12, n21, n1, n1', n2, n2', ed, hh]
      generalize (rowsVI l).flatten ++ spare.map AV.v = C1 at *
      simp [overlay, eVI] at hset
      simp -implicitDefEqProofs [n12, n21, n1, n1', n2, n2', hlt, hlt', hfit, hset]
      refine shiftK.freeze (b := b) (len := l.length) (cap := cap) 6 93 (rowsVI L) (by simp) (by simp) hck (by simp [hLl]) hcol ?_
      simp -implicitDefEqProofs
end Go.Proofs.YtjbbfiagijjdoaaGreat

/- Contracts: what a state tells. No condition. -/
set_option linter.unusedSimpArgs false
set_option linter.unusedVariables false
set_option maxRecDepth 10000
namespace Go.Proofs.YtjbbfiagijjdoaaGreat
open Go Go.Rw Go.Proofs
-- a goal is never to be run by the elaborator
attribute [local irreducible] awp aops aop aopsE aeff

/-- a state that can be -/
structure OkS (s : PState) : Prop where
  sb : sortK keyVB s.books
  sc : sortK keyVC s.cells
  si : sortK keyVI s.intents
  rb : ∀ x ∈ s.books, rightV x.view = true
  rc : ∀ x ∈ s.cells, rightV x.view = true
  ri : ∀ x ∈ s.intents, rightV x.view = true
  rh : rightV s.held = true
  lb : s.books.length ≤ 100000
  lc : s.cells.length ≤ 100000
  li : s.intents.length ≤ 100000
  bl : ∀ x ∈ s.books, x.book.length ≤ 100000
  cl : ∀ x ∈ s.cells, x.cells.length ≤ 100000
def bookS (s : PState) (v : PView) : List PEntry := match s.books[posK keyVB s.books (nameV v)]? with | some x => if hasK keyVB s.books (nameV v) = true then x.book else [] | none => []
def cellsS (s : PState) (v : PView) : List PCell := match s.cells[posK keyVC s.cells (nameV v)]? with | some x => if hasK keyVC s.cells (nameV v) = true then x.cells else [] | none => []
theorem new_spec (v : PView) : ASpec Tryz.prog 62 [.agg (eV v)] (· = .agg (eSt ⟨[], [], [], v, 0, 0⟩)) := by
  refine ASpec.of_awp Tryz.func62 (by kernel_rfl) rfl (by rw [Tryz.results62]) Tryz.ntmps62 ?_
  simp -implicitDefEqProofs [eV]
  refine allocK.intro (fun b1 hb1 => ?_)
  simp -implicitDefEqProofs
  refine allocK.intro (fun b2 hb2 => ?_)
  have n12 : ¬ b1 = b2 := by rintro rfl; simp at hb2
  have n21 : ¬ b2 = b1 := fun h => n12 h.symm
  simp -implicitDefEqProofs [n12, n21, eSt]
theorem book_spec (s : PState) (v : PView) (hs : OkS s) (hv : rightV v = true) : ASpec Tryz.prog 37 [.agg (eSt s), .agg (eV v)] (fun r => ∃ tag, r = .sl tag (eEs (bookS s v))) := by
  refine ASpec.of_awp Tryz.func37 (by kernel_rfl) rfl (by rw [Tryz.results37]) Tryz.ntmps37 ?_
  simp -implicitDefEqProofs [eV, eSt]
  refine allocK.intro (fun b1 hb1 => ?_)
  simp -implicitDefEqProofs
  refine allocK.intro (fun b2 hb2 => ?_)
  have n12 : ¬ b1 = b2 := by rintro rfl; simp at hb2
  have n21 : ¬ b2 = b1 := fun h => n12 h.symm
  simp -implicitDefEqProofs [n12, n21]
  refine regionK.intro 10 follows_mixed (by kernel_rfl) ?_
  simp -implicitDefEqProofs [n12, n21]
  refine CallQ.with shelvedVB_spec rfl ?_
  simp -implicitDefEqProofs [n12, n21]
  refine CallQ.with (placeVB_spec s.books v hs.sb (by have := hs.lb; omega) hs.rb hv) (by simp [eV, rowsVB]) ?_
  have hat := hasK_at hs.sb (nameV v)
  unfold bookS
  rcases hat with ⟨x, hx, hk, hh⟩ | ⟨_, hh⟩
  · rw [hx, hh]
    have hlt : posK keyVB s.books (nameV v) < s.books.length := by
      rcases Nat.lt_or_ge (posK keyVB s.books (nameV v)) s.books.length with h | h
      · exact h
      · rw [List.getElem?_eq_none h] at hx; simp at hx
    have hbl := hs.bl x (List.mem_of_getElem? hx)
    generalize posK keyVB s.books (nameV v) = p at *
    have hlt' : (p : Int) < (s.books.length : Int) := by omega
    simp -implicitDefEqProofs [n12, n21, hx, hlt', eVB]
    refine CallK.via (clone_entries x.book (by omega)) rfl ?_
    rintro _ ⟨tag, _, rfl⟩
    simp -implicitDefEqProofs
  · rw [hh]
    have e : ∀ o : Option PVB, (match o with | some x => if false = true then x.book else [] | none => []) = ([] : List PEntry) := fun o => by cases o <;> simp
    rw [e]
    simp -implicitDefEqProofs [n12, n21]
theorem cells_spec (s : PState) (v : PView) (hs : OkS s) (hv : rightV v = true) : ASpec Tryz.prog 40 [.agg (eSt s), .agg (eV v)] (fun r => ∃ tag, r = .sl tag (eCs (cellsS s v))) := by
  refine ASpec.of_awp Tryz.func40 (by kernel_rfl) rfl (by rw [Tryz.results40]) Tryz.ntmps40 ?_
  simp -implicitDefEqProofs [eV, eSt]
  refine allocK.intro (fun b1 hb1 => ?_)
  simp -implicitDefEqProofs
  refine allocK.intro (fun b2 hb2 => ?_)
  have n12 : ¬ b1 = b2 := by rintro rfl; simp at hb2
  have n21 : ¬ b2 = b1 := fun h => n12 h.symm
  simp -implicitDefEqProofs [n12, n21]
  refine regionK.intro 10 follows_mixed (by kernel_rfl) ?_
  simp -implicitDefEqProofs [n12, n21]
  refine CallQ.with shelvedVC_spec rfl ?_
  simp -implicitDefEqProofs [n12, n21]
  refine CallQ.with (placeVC_spec s.cells v hs.sc (by have := hs.lc; omega) hs.rc hv) (by simp [eV, rowsVC]) ?_
  have hat := hasK_at hs.sc (nameV v)
  unfold cellsS
  rcases hat with ⟨x, hx, hk, hh⟩ | ⟨_, hh⟩
  · rw [hx, hh]
    have hlt : posK keyVC s.cells (nameV v) < s.cells.length := by
      rcases Nat.lt_or_ge (posK keyVC s.cells (nameV v)) s.cells.length with h | h
      · exact h
      · rw [List.getElem?_eq_none h] at hx; simp at hx
    have hbl := hs.cl x (List.mem_of_getElem? hx)
    generalize posK keyVC s.cells (nameV v) = p at *
    have hlt' : (p : Int) < (s.cells.length : Int) := by omega
    simp -implicitDefEqProofs [n12, n21, hx, hlt', eVC]
    refine CallK.via (clone_cells x.cells (by omega)) rfl ?_
    rintro _ ⟨tag, _, rfl⟩
    simp -implicitDefEqProofs
  · rw [hh]
    have e : ∀ o : Option PVC, (match o with | some x => if false = true then x.cells else [] | none => []) = ([] : List PCell) := fun o => by cases o <;> simp
    rw [e]
    simp -implicitDefEqProofs [n12, n21]
def intentS (s : PState) (v : PView) : Option PView := match s.intents[posK keyVI s.intents (nameV v)]? with | some x => if hasK keyVI s.intents (nameV v) = true then some x.change else none | none => none
def intentA (s : PState) (v : PView) : AV := .tup [.agg (eV ((intentS s v).getD ⟨0, 0⟩)), .v (.bool (intentS s v).isSome)]
theorem intent_spec (s : PState) (v : PView) (hs : OkS s) (hv : rightV v = true) : ASpec Tryz.prog 31 [.agg (eSt s), .agg (eV v)] (· = intentA s v) := by
  refine ASpec.of_awp Tryz.func31 (by kernel_rfl) rfl (by rw [Tryz.results31]) Tryz.ntmps31 ?_
  simp -implicitDefEqProofs [eV, eSt]
  refine allocK.intro (fun b1 hb1 => ?_)
  simp -implicitDefEqProofs
  refine allocK.intro (fun b2 hb2 => ?_)
  have n12 : ¬ b1 = b2 := by rintro rfl; simp at hb2
  have n21 : ¬ b2 = b1 := fun h => n12 h.symm
  simp -implicitDefEqProofs [n12, n21]
  refine allocK.intro (fun b3 hb3 => ?_)
  have n13 : ¬ b1 = b3 := by rintro rfl; simp [n12] at hb3
  have n31 : ¬ b3 = b1 := fun h => n13 h.symm
  have n23 : ¬ b2 = b3 := by rintro rfl; simp at hb3
  have n32 : ¬ b3 = b2 := fun h => n23 h.symm
  simp -implicitDefEqProofs [n12, n21, n13, n31, n23, n32]
  refine regionK.intro 10 follows_mixed (by kernel_rfl) ?_
  simp -implicitDefEqProofs [n12, n21, n13, n31, n23, n32]
  refine CallQ.with shelvedVI_spec rfl ?_
  simp -implicitDefEqProofs [n12, n21, n13, n31, n23, n32]
  refine CallQ.with (placeVI_spec s.intents v hs.si (by have := hs.li; omega) hs.ri hv) (by simp [eV, rowsVI]) ?_
  have hat := hasK_at hs.si (nameV v)
  unfold intentA intentS
  rcases hat with ⟨x, hx, hk, hh⟩ | ⟨_, hh⟩
  · rw [hx, hh]
    have hlt : posK keyVI s.intents (nameV v) < s.intents.length := by
      rcases Nat.lt_or_ge (posK keyVI s.intents (nameV v)) s.intents.length with h | h
      · exact h
      · rw [List.getElem?_eq_none h] at hx; simp at hx
    generalize posK keyVI s.intents (nameV v) = p at *
    have hlt' : (p : Int) < (s.intents.length : Int) := by omega
    simp -implicitDefEqProofs [n12, n21, n13, n31, n23, n32, hx, hlt', eVI, eV]
  · rw [hh]
    have e : ∀ o : Option PVI, (match o with | some x => if false = true then some x.change else none | none => none) = (none : Option PView) := fun o => by cases o <;> simp
    rw [e]
    simp -implicitDefEqProofs [n12, n21, n13, n31, n23, n32, eV]
end Go.Proofs.YtjbbfiagijjdoaaGreat

/- Contracts: the state behind a record. No condition. -/
set_option linter.unusedSimpArgs false
set_option linter.unusedVariables false
set_option maxRecDepth 10000
namespace Go.Proofs.YtjbbfiagijjdoaaGreat
open Go Go.Rw Go.Proofs
-- a goal is never to be run by the elaborator
attribute [local irreducible] awp aops aop aopsE aeff

def applyS (s : PState) (r : PRec) : PState :=
  if r.kind = 1 then { s with books := putK keyVB s.books ⟨r.view, mergeE (bookS s r.view) [r.entry]⟩ }
  else if r.kind = 2 then { s with cells := putK keyVC s.cells ⟨r.view, mergeS (cellsS s r.view) [r.cell]⟩ }
  else if r.kind = 3 then (if withinV s.held r.view = true then { s with held := r.view } else s)
  else if r.kind = 4 then { s with last := max s.last r.n }
  else if r.kind = 5 then (if (intentS s r.view).isSome = true then s else { s with intents := putK keyVI s.intents ⟨r.view, r.cell.change⟩ })
  else if r.kind = 6 then { s with inc := max s.inc r.n }
  else s
theorem apply_spec (s : PState) (r : PRec) (hs : OkS s) (hv : rightV r.view = true) (hc : (cellsS s r.view ++ newsC (cellsS s r.view) [r.cell]).length ≤ 12 ∧ 0 < (cellsS s r.view ++ newsC (cellsS s r.view) [r.cell]).length) :
    ASpec Tryz.prog 44 [.agg (eSt s), .agg (eRc r)] (· = .agg (eSt (applyS s r))) := by
  refine ASpec.of_awp Tryz.func44 (by kernel_rfl) rfl (by rw [Tryz.results44]) Tryz.ntmps44 ?_
  simp -implicitDefEqProofs [eRc, eSt]
  refine allocK.intro (fun b1 hb1 => ?_)
  simp -implicitDefEqProofs
  refine allocK.intro (fun b2 hb2 => ?_)
  have n12 : ¬ b1 = b2 := by rintro rfl; simp at hb2
  have n21 : ¬ b2 = b1 := fun h => n12 h.symm
  simp -implicitDefEqProofs [n12, n21]
  refine allocK.intro (fun b3 hb3 => ?_)
  have n13 : ¬ b1 = b3 := by rintro rfl; simp [n12] at hb3
  have n31 : ¬ b3 = b1 := fun h => n13 h.symm
  have n23 : ¬ b2 = b3 := by rintro rfl; simp at hb3
  have n32 : ¬ b3 = b2 := fun h => n23 h.symm
  by_cases h1 : r.kind = 1
  · simp -implicitDefEqProofs [n12, n21, n13, n31, n23, n32, h1]
    refine regionK.intro 9 follows_mixed (by kernel_rfl) ?_
    simp -implicitDefEqProofs [n12, n21, n13, n31, n23, n32]
    refine CallQ.of (x := .sl .no (eEs (bookS s r.view))) (by have := book_spec s r.view hs hv; simpa [eSt, eV] using this) (by rintro _ ⟨tag, rfl⟩; rfl) ?_
    simp -implicitDefEqProofs [n12, n21, n13, n31, n23, n32]
    refine CallQ.of (x := .sl .no (eEs (mergeE (bookS s r.view) [r.entry]))) (by have := merge_spec (bookS s r.view) [r.entry]; simpa [eEs, eE] using this) (by rintro _ ⟨tag, rfl⟩; rfl) ?_
    simp -implicitDefEqProofs [n12, n21, n13, n31, n23, n32]
    refine regionK.intro 9 follows_mixed (by kernel_rfl) ?_
    simp -implicitDefEqProofs [n12, n21, n13, n31, n23, n32]
    refine CallQ.with shelvedVB_spec rfl ?_
    simp -implicitDefEqProofs [n12, n21, n13, n31, n23, n32]
    refine CallQ.of (x := .sl .no (rowsVB (putK keyVB s.books ⟨r.view, mergeE (bookS s r.view) [r.entry]⟩))) (by have := putVB_spec s.books ⟨r.view, mergeE (bookS s r.view) [r.entry]⟩ hs.sb (by have := hs.lb; omega) hs.rb hv; simpa [rowsVB, eVB] using this) (by rintro _ ⟨tag, rfl⟩; rfl) ?_
    simp -implicitDefEqProofs [n12, n21, n13, n31, n23, n32, applyS, h1, eSt, rowsVB]
  · by_cases h2 : r.kind = 2
    · have h2' : (2 : Int) = 1 ↔ False := by decide
      simp -implicitDefEqProofs [n12, n21, n13, n31, n23, n32, h1, h2]
      refine regionK.intro 9 follows_mixed (by kernel_rfl) ?_
      simp -implicitDefEqProofs [n12, n21, n13, n31, n23, n32]
      refine CallQ.of (x := .sl .no (eCs (cellsS s r.view))) (by have := cells_spec s r.view hs hv; simpa [eSt, eV] using this) (by rintro _ ⟨tag, rfl⟩; rfl) ?_
      simp -implicitDefEqProofs [n12, n21, n13, n31, n23, n32]
      refine CallQ.of (x := .sl .no (eCs (mergeS (cellsS s r.view) [r.cell]))) (by have := cmerge_spec (cellsS s r.view) [r.cell] hc.1 hc.2 (by simp); simpa [eCs, eC] using this) (by rintro _ ⟨tag, rfl⟩; rfl) ?_
      simp -implicitDefEqProofs [n12, n21, n13, n31, n23, n32]
      refine regionK.intro 9 follows_mixed (by kernel_rfl) ?_
      simp -implicitDefEqProofs [n12, n21, n13, n31, n23, n32]
      refine CallQ.with shelvedVC_spec rfl ?_
      simp -implicitDefEqProofs [n12, n21, n13, n31, n23, n32]
      refine CallQ.of (x := .sl .no (rowsVC (putK keyVC s.cells ⟨r.view, mergeS (cellsS s r.view) [r.cell]⟩))) (by have := putVC_spec s.cells ⟨r.view, mergeS (cellsS s r.view) [r.cell]⟩ hs.sc (by have := hs.lc; omega) hs.rc hv; simpa [rowsVC, eVC] using this) (by rintro _ ⟨tag, rfl⟩; rfl) ?_
      simp -implicitDefEqProofs [n12, n21, n13, n31, n23, n32, applyS, h1, h2, eSt, rowsVC]
    · by_cases h3 : r.kind = 3
      · simp -implicitDefEqProofs [n12, n21, n13, n31, n23, n32, h1, h2, h3]
        refine CallK.with (within_spec s.held r.view hs.rh hv) (by simp [eV]) ?_
        cases hw : withinV s.held r.view
        · simp -implicitDefEqProofs [n12, n21, n13, n31, n23, n32, applyS, h1, h2, h3, hw, eSt]
        · simp -implicitDefEqProofs [n12, n21, n13, n31, n23, n32, applyS, h1, h2, h3, hw, eSt]
      · by_cases h4 : r.kind = 4
        · simp -implicitDefEqProofs [n12, n21, n13, n31, n23, n32, h1, h2, h3, h4, applyS, eSt]
          split <;> omega
        · by_cases h5 : r.kind = 5
          · simp -implicitDefEqProofs [n12, n21, n13, n31, n23, n32, h1, h2, h3, h4, h5]
            refine CallK.with (intent_spec s r.view hs hv) (by simp [eSt, eV]) ?_
            rw [intentA]
            simp -implicitDefEqProofs [n12, n21, n13, n31, n23, n32, eV]
            refine allocK.intro (fun b4 hb4 => ?_)
            have n14 : ¬ b1 = b4 := by rintro rfl; simp [n12, n13] at hb4
            have n41 : ¬ b4 = b1 := fun h => n14 h.symm
            have n24 : ¬ b2 = b4 := by rintro rfl; simp [n23] at hb4
            have n42 : ¬ b4 = b2 := fun h => n24 h.symm
            have n34 : ¬ b3 = b4 := by rintro rfl; simp at hb4
            have n43 : ¬ b4 = b3 := fun h => n34 h.symm
            cases ho : (intentS s r.view).isSome
            · simp -implicitDefEqProofs [n12, n21, n13, n31, n23, n32, n14, n41, n24, n42, n34, n43]
              refine regionK.intro 11 follows_mixed (by kernel_rfl) ?_
              simp -implicitDefEqProofs [n12, n21, n13, n31, n23, n32, n14, n41, n24, n42, n34, n43]
              refine CallQ.with shelvedVI_spec rfl ?_
              simp -implicitDefEqProofs [n12, n21, n13, n31, n23, n32, n14, n41, n24, n42, n34, n43]
              refine CallQ.of (x := .sl .no (rowsVI (putK keyVI s.intents ⟨r.view, r.cell.change⟩))) (by have := putVI_spec s.intents ⟨r.view, r.cell.change⟩ hs.si (by have := hs.li; omega) hs.ri hv; simpa [rowsVI, eVI] using this) (by rintro _ ⟨tag, rfl⟩; rfl) ?_
              simp -implicitDefEqProofs [n12, n21, n13, n31, n23, n32, n14, n41, n24, n42, n34, n43, applyS, h1, h2, h3, h4, h5, ho, eSt, rowsVI]
            · simp -implicitDefEqProofs [n12, n21, n13, n31, n23, n32, n14, n41, n24, n42, n34, n43, applyS, h1, h2, h3, h4, h5, ho, eSt]
          · by_cases h6 : r.kind = 6
            · simp -implicitDefEqProofs [n12, n21, n13, n31, n23, n32, h1, h2, h3, h4, h5, h6, applyS, eSt]
              split <;> omega
            · simp -implicitDefEqProofs [n12, n21, n13, n31, n23, n32, h1, h2, h3, h4, h5, h6, applyS, eSt]
end Go.Proofs.YtjbbfiagijjdoaaGreat

/- Plain: states that can be stay so. No condition. -/
set_option linter.unusedSimpArgs false
set_option linter.unusedVariables false
set_option maxRecDepth 10000
namespace Go.Proofs.YtjbbfiagijjdoaaGreat
open Go Go.Rw Go.Proofs

section
variable {α : Type} {key : α → Int}
theorem sort_put {l : List α} (h : sortK key l) (x : α) : sortK key (putK key l x) := by
  unfold sortK putK
  rw [List.pairwise_append, List.pairwise_cons]
  refine ⟨h.filter _, ⟨fun y hy => ?_, h.filter _⟩, fun y hy z hz => ?_⟩
  · have := (List.mem_filter.1 hy).2
    simpa using this
  · have h1 := (List.mem_filter.1 hy).2
    simp at h1
    rcases List.mem_cons.1 hz with rfl | hz
    · exact h1
    · have h2 := (List.mem_filter.1 hz).2
      simp at h2; omega
theorem mem_put {l : List α} {x y : α} (h : y ∈ putK key l x) : y = x ∨ y ∈ l := by
  unfold putK at h
  rcases List.mem_append.1 h with h | h
  · exact .inr (List.mem_filter.1 h).1
  · rcases List.mem_cons.1 h with h | h
    · exact .inl h
    · exact .inr (List.mem_filter.1 h).1
theorem put_len {l : List α} (h : sortK key l) (x : α) : (putK key l x).length ≤ l.length + 1 := by
  unfold putK
  rw [List.length_append, List.length_cons]
  have h1 : (l.filter fun y => decide (key x < key y)).length ≤ (l.filter fun y => decide (¬ key y < key x)).length := by
    rw [← List.countP_eq_length_filter, ← List.countP_eq_length_filter]
    refine List.countP_mono_left fun y _ hy => ?_
    simp at hy ⊢; omega
  obtain ⟨t1, t2⟩ := take_posK h (key x)
  rw [← t2] at h1
  have h2 : (l.filter fun y => decide (key y < key x)).length = (l.take (posK key l (key x))).length := by rw [t1]
  rw [h2, List.length_take]
  rw [List.length_drop] at h1
  have := posK_le (key := key) l (key x)
  omega
end
/-- a state behind at most n records -/
structure OkN (n : Nat) (s : PState) : Prop where
  sb : sortK keyVB s.books
  sc : sortK keyVC s.cells
  si : sortK keyVI s.intents
  rb : ∀ x ∈ s.books, rightV x.view = true
  rc : ∀ x ∈ s.cells, rightV x.view = true
  ri : ∀ x ∈ s.intents, rightV x.view = true
  rh : rightV s.held = true
  lb : s.books.length ≤ n
  lc : s.cells.length ≤ n
  li : s.intents.length ≤ n
  bl : ∀ x ∈ s.books, x.book.length ≤ 4
  cl : ∀ x ∈ s.cells, okCs x.cells
theorem OkN.ok {n : Nat} {s : PState} (h : OkN n s) (hn : n ≤ 100000) : OkS s :=
  ⟨h.sb, h.sc, h.si, h.rb, h.rc, h.ri, h.rh, by have := h.lb; omega, by have := h.lc; omega, by have := h.li; omega, fun x hx => by have := h.bl x hx; omega, fun x hx => by have := okCs_len (h.cl x hx); omega⟩
theorem okCs_nil : okCs [] := ⟨List.Pairwise.nil, fun x hx => by simp at hx⟩
theorem OkN.cells {n : Nat} {s : PState} (h : OkN n s) (v : PView) : okCs (cellsS s v) := by
  unfold cellsS
  split
  · rename_i x hx
    split
    · exact h.cl x (List.mem_of_getElem? hx)
    · exact okCs_nil
  · exact okCs_nil
theorem right_cell {r : PRec} (h : rightR r = true) : rightV r.view = true ∧ 0 ≤ r.cell.node ∧ r.cell.node < 6 := by
  simp [rightR] at h
  exact ⟨h.1.1.1.2, h.1.2.1, h.1.2.2⟩
theorem okCs_one {c : PCell} (h : 0 ≤ c.node ∧ c.node < 6) : okCs [c] := ⟨by simp, fun x hx => by simp at hx; subst hx; exact h⟩
theorem OkN.news {n : Nat} {s : PState} (h : OkN n s) {r : PRec} (hr : rightR r = true) : (cellsS s r.view ++ newsC (cellsS s r.view) [r.cell]).length ≤ 12 ∧ 0 < (cellsS s r.view ++ newsC (cellsS s r.view) [r.cell]).length := by
  refine ⟨news_len (h.cells r.view) (okCs_one (right_cell hr).2), ?_⟩
  rw [List.length_append]
  cases hc : cellsS s r.view with
  | nil => simp [newsC, ofC]
  | cons => simp only [List.length_cons]; omega
theorem OkN.mono {n m : Nat} {s : PState} (h : OkN n s) (hn : n ≤ m) : OkN m s :=
  ⟨h.sb, h.sc, h.si, h.rb, h.rc, h.ri, h.rh, by have := h.lb; omega, by have := h.lc; omega, by have := h.li; omega, h.bl, h.cl⟩
theorem okN_apply {n : Nat} {s : PState} (h : OkN n s) {r : PRec} (hr : rightR r = true) : OkN (n + 1) (applyS s r) := by
  have hv := (right_cell hr).1
  unfold applyS
  split
  · have hl := put_len h.sb ⟨r.view, mergeE (bookS s r.view) [r.entry]⟩
    refine ⟨sort_put h.sb _, h.sc, h.si, fun x hx => ?_, h.rc, h.ri, h.rh, by have := h.lb; simp only; omega, by have := h.lc; simp only; omega, by have := h.li; simp only; omega, fun x hx => ?_, h.cl⟩
    · rcases mem_put hx with rfl | hx
      · exact hv
      · exact h.rb x hx
    · rcases mem_put hx with rfl | hx
      · exact mergeK_le _ _ 4
      · exact h.bl x hx
  · split
    · have hl := put_len h.sc ⟨r.view, mergeS (cellsS s r.view) [r.cell]⟩
      refine ⟨h.sb, sort_put h.sc _, h.si, h.rb, fun x hx => ?_, h.ri, h.rh, by have := h.lb; simp only; omega, by have := h.lc; simp only; omega, by have := h.li; simp only; omega, h.bl, fun x hx => ?_⟩
      · rcases mem_put hx with rfl | hx
        · exact hv
        · exact h.rc x hx
      · rcases mem_put hx with rfl | hx
        · show okCs (mergeS (cellsS s r.view) [r.cell])
          rw [mergeS_eq (h.cells r.view) (okCs_one (right_cell hr).2)]
          exact okCs_merge _ _
        · exact h.cl x hx
    · split
      · split
        · exact ⟨h.sb, h.sc, h.si, h.rb, h.rc, h.ri, hv, by have := h.lb; simp only; omega, by have := h.lc; simp only; omega, by have := h.li; simp only; omega, h.bl, h.cl⟩
        · exact h.mono (by omega)
      · split
        · exact ⟨h.sb, h.sc, h.si, h.rb, h.rc, h.ri, h.rh, by have := h.lb; simp only; omega, by have := h.lc; simp only; omega, by have := h.li; simp only; omega, h.bl, h.cl⟩
        · split
          · split
            · exact h.mono (by omega)
            · have hl := put_len h.si ⟨r.view, r.cell.change⟩
              refine ⟨h.sb, h.sc, sort_put h.si _, h.rb, h.rc, fun x hx => ?_, h.rh, by have := h.lb; simp only; omega, by have := h.lc; simp only; omega, by have := h.li; simp only; omega, h.bl, h.cl⟩
              rcases mem_put hx with rfl | hx
              · exact hv
              · exact h.ri x hx
          · split
            · exact ⟨h.sb, h.sc, h.si, h.rb, h.rc, h.ri, h.rh, by have := h.lb; simp only; omega, by have := h.lc; simp only; omega, by have := h.li; simp only; omega, h.bl, h.cl⟩
            · exact h.mono (by omega)
/-- the state behind records -/
def newS (v : PView) : PState := ⟨[], [], [], v, 0, 0⟩
def foldS (v : PView) (l : List PRec) : PState := l.foldl applyS (newS v)
theorem okN_new {v : PView} (h : rightV v = true) : OkN 0 (newS v) :=
  ⟨List.Pairwise.nil, List.Pairwise.nil, List.Pairwise.nil, fun x hx => by simp [newS] at hx, fun x hx => by simp [newS] at hx, fun x hx => by simp [newS] at hx, h, Nat.le_refl _, Nat.le_refl _, Nat.le_refl _, fun x hx => by simp [newS] at hx, fun x hx => by simp [newS] at hx⟩
theorem foldS_step {v : PView} {l : List PRec} {k : Nat} {r : PRec} (h : l[k]? = some r) : foldS v (l.take (k + 1)) = applyS (foldS v (l.take k)) r := by
  unfold foldS
  rw [List.take_add_one, h, List.foldl_append]; rfl
theorem okN_fold {v : PView} (hv : rightV v = true) {l : List PRec} (hl : ∀ r ∈ l, rightR r = true) (k : Nat) (hk : k ≤ l.length) : OkN k (foldS v (l.take k)) := by
  induction k with
  | zero => simpa [foldS] using okN_new hv
  | succ k ih =>
    have hx : l[k]? = some l[k] := List.getElem?_eq_getElem (by omega)
    rw [foldS_step hx]
    exact okN_apply (ih (by omega)) (hl _ (List.mem_of_getElem? hx))
end Go.Proofs.YtjbbfiagijjdoaaGreat

/- Plain: what a state tells behind a record. No condition. -/
set_option linter.unusedSimpArgs false
set_option linter.unusedVariables false
set_option maxRecDepth 10000
namespace Go.Proofs.YtjbbfiagijjdoaaGreat
open Go Go.Rw Go.Proofs

section
variable {α : Type} {key : α → Int}
/-- what stands behind a name -/
def lookK (key : α → Int) (l : List α) (n : Int) : Option α := l.find? fun x => decide (key x = n)
theorem look_none {l : List α} {n : Int} : lookK key l n = none ↔ ∀ x ∈ l, ¬ key x = n := by
  unfold lookK; simp
theorem look_some {l : List α} {n : Int} {x : α} (h : lookK key l n = some x) : x ∈ l ∧ key x = n :=
  ⟨List.mem_of_find?_eq_some h, by simpa using List.find?_some h⟩
theorem key_inj {l : List α} (hl : sortK key l) {x y : α} (hx : x ∈ l) (hy : y ∈ l) (h : key x = key y) : x = y := by
  unfold sortK at hl
  induction l with
  | nil => simp at hx
  | cons z l ih =>
    rw [List.pairwise_cons] at hl
    rcases List.mem_cons.1 hx with hx1 | hx1
    · rcases List.mem_cons.1 hy with hy1 | hy1
      · rw [hx1, hy1]
      · have := hl.1 y hy1; rw [hx1] at h; omega
    · rcases List.mem_cons.1 hy with hy1 | hy1
      · have := hl.1 x hx1; rw [hy1] at h; omega
      · exact ih hl.2 hx1 hy1
theorem look_mem {l : List α} (hl : sortK key l) {x : α} : x ∈ l ↔ lookK key l (key x) = some x := by
  constructor
  · intro hx
    cases h : lookK key l (key x) with
    | none => exact absurd rfl (look_none.1 h x hx)
    | some y =>
      obtain ⟨h1, h2⟩ := look_some h
      rw [key_inj hl h1 hx h2]
  · exact fun h => (look_some h).1
theorem look_put (l : List α) (x : α) (n : Int) : lookK key (putK key l x) n = if key x = n then some x else lookK key l n := by
  unfold lookK putK
  rw [List.find?_append, List.find?_cons, List.find?_filter, List.find?_filter]
  by_cases h : key x = n
  · have e : l.find? (fun y => decide (decide (key y < key x) = true ∧ decide (key y = n) = true)) = none := List.find?_eq_none.2 fun y _ => by simp; omega
    rw [if_pos h, e]
    simp [h]
  · rw [if_neg h]
    rcases Int.lt_or_gt_of_ne h with h1 | h1
    · have e1 : l.find? (fun y => decide (decide (key y < key x) = true ∧ decide (key y = n) = true)) = none := List.find?_eq_none.2 fun y _ => by simp; omega
      have e2 : (fun y => decide (decide (key x < key y) = true ∧ decide (key y = n) = true)) = fun y => decide (key y = n) := by funext y; by_cases h2 : key y = n <;> simp [h2]; omega
      rw [e1, e2]
      simp [h]
    · have e1 : l.find? (fun y => decide (decide (key x < key y) = true ∧ decide (key y = n) = true)) = none := List.find?_eq_none.2 fun y _ => by simp; omega
      have e2 : (fun y => decide (decide (key y < key x) = true ∧ decide (key y = n) = true)) = fun y => decide (key y = n) := by funext y; by_cases h2 : key y = n <;> simp [h2]; omega
      rw [e1, e2]
      simp [h]
theorem nodupK {l : List α} (hl : sortK key l) : l.Nodup := hl.imp fun h => by rintro rfl; omega
end
theorem name_inj {v w : PView} (hv : rightV v = true) (hw : rightV w = true) (h : nameV v = nameV w) : v = w := by
  rw [← viewN_name hv, ← viewN_name hw, h]
theorem bookS_look {s : PState} (h : sortK keyVB s.books) (v : PView) : bookS s v = ((lookK keyVB s.books (nameV v)).map (·.book)).getD [] := by
  unfold bookS
  rcases hasK_at h (nameV v) with ⟨x, hx, hk, hh⟩ | ⟨_, hh⟩
  · rw [hx, hh, ← hk, (look_mem h).1 (List.mem_of_getElem? hx)]
    simp
  · have e : lookK keyVB s.books (nameV v) = none := look_none.2 fun x hx hk => by
      have : hasK keyVB s.books (nameV v) = true := by rw [hasK, List.any_eq_true]; exact ⟨x, hx, by simpa using hk⟩
      rw [hh] at this; simp at this
    rw [e, hh]
    split <;> simp
theorem cellsS_look {s : PState} (h : sortK keyVC s.cells) (v : PView) : cellsS s v = ((lookK keyVC s.cells (nameV v)).map (·.cells)).getD [] := by
  unfold cellsS
  rcases hasK_at h (nameV v) with ⟨x, hx, hk, hh⟩ | ⟨_, hh⟩
  · rw [hx, hh, ← hk, (look_mem h).1 (List.mem_of_getElem? hx)]
    simp
  · have e : lookK keyVC s.cells (nameV v) = none := look_none.2 fun x hx hk => by
      have : hasK keyVC s.cells (nameV v) = true := by rw [hasK, List.any_eq_true]; exact ⟨x, hx, by simpa using hk⟩
      rw [hh] at this; simp at this
    rw [e, hh]
    split <;> simp
theorem intentS_look {s : PState} (h : sortK keyVI s.intents) (v : PView) : intentS s v = (lookK keyVI s.intents (nameV v)).map (·.change) := by
  unfold intentS
  rcases hasK_at h (nameV v) with ⟨x, hx, hk, hh⟩ | ⟨_, hh⟩
  · rw [hx, hh, ← hk, (look_mem h).1 (List.mem_of_getElem? hx)]
    simp
  · have e : lookK keyVI s.intents (nameV v) = none := look_none.2 fun x hx hk => by
      have : hasK keyVI s.intents (nameV v) = true := by rw [hasK, List.any_eq_true]; exact ⟨x, hx, by simpa using hk⟩
      rw [hh] at this; simp at this
    rw [e, hh]
    split <;> simp
/-! ### behind a record -/
theorem apply_books (s : PState) (r : PRec) (n : Int) : lookK keyVB (applyS s r).books n = if r.kind = 1 ∧ nameV r.view = n then some ⟨r.view, mergeE (bookS s r.view) [r.entry]⟩ else lookK keyVB s.books n := by
  unfold applyS
  by_cases h1 : r.kind = 1
  · simp only [h1, if_true, true_and]
    rw [look_put]
    rfl
  · have : ¬ (r.kind = 1 ∧ nameV r.view = n) := fun h => h1 h.1
    rw [if_neg this]
    simp only [h1, if_false]
    repeat' split
    all_goals rfl
theorem apply_cells (s : PState) (r : PRec) (n : Int) : lookK keyVC (applyS s r).cells n = if r.kind = 2 ∧ nameV r.view = n then some ⟨r.view, mergeS (cellsS s r.view) [r.cell]⟩ else lookK keyVC s.cells n := by
  unfold applyS
  by_cases h1 : r.kind = 2
  · have h2 : ¬ r.kind = 1 := by omega
    simp only [h1, h2, if_true, true_and, if_false]
    rw [if_neg (by omega), look_put]
    rfl
  · have : ¬ (r.kind = 2 ∧ nameV r.view = n) := fun h => h1 h.1
    rw [if_neg this]
    simp only [h1, if_false]
    repeat' split
    all_goals rfl
theorem apply_intents (s : PState) (r : PRec) (n : Int) : lookK keyVI (applyS s r).intents n = if r.kind = 5 ∧ (intentS s r.view).isSome = false ∧ nameV r.view = n then some ⟨r.view, r.cell.change⟩ else lookK keyVI s.intents n := by
  unfold applyS
  by_cases h1 : r.kind = 5
  · have h2 : ¬ r.kind = 1 := by omega
    have h3 : ¬ r.kind = 2 := by omega
    have h4 : ¬ r.kind = 3 := by omega
    have h5 : ¬ r.kind = 4 := by omega
    rw [if_neg h2, if_neg h3, if_neg h4, if_neg h5, if_pos h1]
    cases ho : (intentS s r.view).isSome
    · simp only [h1, true_and, Bool.false_eq_true, if_false]
      rw [look_put]
      rfl
    · simp
  · have : ¬ (r.kind = 5 ∧ (intentS s r.view).isSome = false ∧ nameV r.view = n) := fun h => h1 h.1
    rw [if_neg this]
    simp only [h1, if_false]
    repeat' split
    all_goals rfl
theorem apply_held (s : PState) (r : PRec) : (applyS s r).held = if r.kind = 3 ∧ withinV s.held r.view = true then r.view else s.held := by
  unfold applyS
  by_cases h1 : r.kind = 3
  · rw [if_neg (by omega), if_neg (by omega), if_pos h1]
    by_cases h2 : withinV s.held r.view = true
    · rw [if_pos h2, if_pos ⟨h1, h2⟩]
    · rw [if_neg h2, if_neg (fun h => h2 h.2)]
  · have : ¬ (r.kind = 3 ∧ withinV s.held r.view = true) := fun h => h1 h.1
    rw [if_neg this]
    simp only [h1, if_false]
    repeat' split
    all_goals rfl
theorem apply_last (s : PState) (r : PRec) : (applyS s r).last = if r.kind = 4 then max s.last r.n else s.last := by
  unfold applyS
  by_cases h1 : r.kind = 4
  · rw [if_neg (by omega), if_neg (by omega), if_neg (by omega), if_pos h1, if_pos h1]
  · rw [if_neg h1]
    simp only [h1, if_false]
    repeat' split
    all_goals rfl
theorem apply_inc (s : PState) (r : PRec) : (applyS s r).inc = if r.kind = 6 then max s.inc r.n else s.inc := by
  unfold applyS
  by_cases h1 : r.kind = 6
  · rw [if_neg (by omega), if_neg (by omega), if_neg (by omega), if_neg (by omega), if_neg (by omega), if_pos h1, if_pos h1]
  · rw [if_neg h1]
    simp only [h1, if_false]
    repeat' split
    all_goals rfl
theorem bookS_apply {n : Nat} {s : PState} (h : OkN n s) {r : PRec} (hr : rightR r = true) {v : PView} (hv : rightV v = true) : bookS (applyS s r) v = if r.kind = 1 ∧ r.view = v then mergeE (bookS s v) [r.entry] else bookS s v := by
  rw [bookS_look (okN_apply h hr).sb, apply_books, bookS_look h.sb v]
  by_cases h1 : r.kind = 1 ∧ r.view = v
  · obtain ⟨h1, rfl⟩ := h1
    rw [if_pos ⟨h1, rfl⟩, if_pos ⟨h1, rfl⟩, bookS_look h.sb]
    rfl
  · rw [if_neg h1, if_neg (fun h2 => h1 ⟨h2.1, name_inj (right_cell hr).1 hv h2.2⟩)]
theorem cellsS_apply {n : Nat} {s : PState} (h : OkN n s) {r : PRec} (hr : rightR r = true) {v : PView} (hv : rightV v = true) : cellsS (applyS s r) v = if r.kind = 2 ∧ r.view = v then mergeC (cellsS s v) [r.cell] else cellsS s v := by
  rw [cellsS_look (okN_apply h hr).sc, apply_cells, cellsS_look h.sc v]
  by_cases h1 : r.kind = 2 ∧ r.view = v
  · obtain ⟨h1, rfl⟩ := h1
    rw [if_pos ⟨h1, rfl⟩, if_pos ⟨h1, rfl⟩, mergeS_eq (h.cells r.view) (okCs_one (right_cell hr).2), cellsS_look h.sc]
    rfl
  · rw [if_neg h1, if_neg (fun h2 => h1 ⟨h2.1, name_inj (right_cell hr).1 hv h2.2⟩)]
theorem intentS_apply {n : Nat} {s : PState} (h : OkN n s) {r : PRec} (hr : rightR r = true) {v : PView} (hv : rightV v = true) : intentS (applyS s r) v = if r.kind = 5 ∧ r.view = v ∧ intentS s v = none then some r.cell.change else intentS s v := by
  rw [intentS_look (okN_apply h hr).si, apply_intents]
  by_cases h1 : r.kind = 5 ∧ r.view = v ∧ intentS s v = none
  · obtain ⟨h1, rfl, h2⟩ := h1
    rw [if_pos ⟨h1, by rw [h2]; rfl, rfl⟩, if_pos ⟨h1, rfl, h2⟩]
    rfl
  · rw [if_neg h1, if_neg, intentS_look h.si]
    rintro ⟨h2, h3, h4⟩
    have h5 := name_inj (right_cell hr).1 hv h4
    exact h1 ⟨h2, h5, by rw [h5] at h3; simpa using h3⟩
end Go.Proofs.YtjbbfiagijjdoaaGreat

/- Plain: books and cells grow; states whose books and cells can be. No condition. -/
set_option linter.unusedSimpArgs false
set_option linter.unusedVariables false
set_option maxRecDepth 10000
namespace Go.Proofs.YtjbbfiagijjdoaaGreat
open Go Go.Rw Go.Proofs

/-! ### tags -/
theorem lessT_iff (a b : PTag) : lessT a b = true ↔ a.num < b.num ∨ (a.num = b.num ∧ a.node < b.node) := by
  rw [lessT_eq]
  by_cases h : a.num = b.num
  · simp [h]
  · simp [h]
theorem lessT_no (a b : PTag) : lessT a b = false ↔ ¬ (a.num < b.num ∨ (a.num = b.num ∧ a.node < b.node)) := by
  rw [← lessT_iff]; simp
theorem newer_rightT (x y : PEntry) : lessT (newerE x y).tag y.tag = false := by
  unfold newerE
  cases h : lessT x.tag y.tag
  · simp [h]
  · simp [lessT_self]
/-! ### books -/
def keyE (x : PEntry) : Int := x.key
/-- a book that can be -/
def okB (b : List PEntry) : Prop := sortK keyE b ∧ ∀ x ∈ b, 0 ≤ x.key ∧ x.key < 4 ∧ rightT x.tag = true ∧ 0 < x.tag.num
theorem checkE_iff : ∀ (b : List PEntry) (last : Int), checkE last b = true ↔ sortK keyE b ∧ ∀ x ∈ b, last < x.key ∧ x.key < 4 ∧ rightT x.tag = true ∧ ¬ x.tag.num = 0
  | [], last => by simp [checkE, sortK]
  | y :: b, last => by
    rw [checkE, Bool.and_eq_true, checkE_iff b y.key]
    unfold sortK
    rw [List.pairwise_cons]
    constructor
    · rintro ⟨h1, h2, h3⟩
      have h4 := okE_of h1
      refine ⟨⟨fun x hx => (h3 x hx).1, h2⟩, fun x hx => ?_⟩
      rcases List.mem_cons.1 hx with rfl | hx
      · exact h4
      · have := h3 x hx; exact ⟨by have := h4.1; omega, this.2⟩
    · rintro ⟨⟨h1, h2⟩, h3⟩
      have h4 := h3 y (by simp)
      exact ⟨okE_5 _ _ (by omega) (by omega) h4.2.2.1 h4.2.2.2, h2, fun x hx => ⟨h1 x hx, (h3 x (by simp [hx])).2⟩⟩
theorem rightT_num {t : PTag} (h : rightT t = true) : 0 ≤ t.num := by simp [rightT] at h; exact h.1.1
theorem okB_iff (b : List PEntry) : checkE (-1) b = true ↔ okB b := by
  rw [checkE_iff]
  unfold okB
  refine and_congr Iff.rfl ⟨fun h x hx => ?_, fun h x hx => ?_⟩
  · obtain ⟨h1, h2, h3, h4⟩ := h x hx
    have := rightT_num h3
    exact ⟨by omega, h2, h3, by omega⟩
  · obtain ⟨h1, h2, h3, h4⟩ := h x hx
    exact ⟨by omega, h2, h3, by omega⟩
theorem okB_nil : okB [] := ⟨List.Pairwise.nil, fun x hx => by simp at hx⟩
theorem findE_look (b : List PEntry) (k : Int) : findE b k = (lookK keyE b k).getD ⟨k, ⟨0, 0⟩, 0⟩ := rfl
theorem findE_key (b : List PEntry) (k : Int) : (findE b k).key = k := by
  rw [findE_look]
  cases h : lookK keyE b k with
  | none => rfl
  | some x => exact (look_some h).2
theorem newer_key {x y : PEntry} {k : Int} (hx : x.key = k) (hy : y.key = k) : (newerE x y).key = k := by unfold newerE; split <;> assumption
theorem mergeE1_mem {a b : List PEntry} {k : Int} {x : PEntry} : x ∈ mergeE1 a b k ↔ x.key = k ∧ x = newerE (findE a k) (findE b k) ∧ 0 < x.tag.num := by
  unfold mergeE1
  have hk := newer_key (findE_key a k) (findE_key b k)
  generalize newerE (findE a k) (findE b k) = e at *
  by_cases h : 0 < e.tag.num
  · rw [if_pos h, List.mem_singleton]
    constructor
    · rintro rfl; exact ⟨hk, rfl, h⟩
    · exact fun h => h.2.1
  · rw [if_neg h]
    constructor
    · intro h1; simp at h1
    · rintro ⟨_, rfl, h2⟩; exact absurd h2 h
theorem mergeK_mem {a b : List PEntry} {m : Nat} {x : PEntry} : x ∈ mergeK a b m ↔ (0 ≤ x.key ∧ x.key < m) ∧ x = newerE (findE a x.key) (findE b x.key) ∧ 0 < x.tag.num := by
  induction m with
  | zero => simp [mergeK]; omega
  | succ k ih =>
    rw [mergeK, List.mem_append, ih, mergeE1_mem]
    constructor
    · rintro (⟨⟨h1, h2⟩, h3⟩ | ⟨h1, h2, h3⟩)
      · exact ⟨⟨h1, by omega⟩, h3⟩
      · exact ⟨⟨by omega, by omega⟩, by rw [h1]; exact h2, h3⟩
    · rintro ⟨⟨h1, h2⟩, h3, h4⟩
      by_cases h : x.key < k
      · exact .inl ⟨⟨h1, h⟩, h3, h4⟩
      · have e : x.key = (k : Int) := by omega
        exact .inr ⟨e, by rw [← e]; exact h3, h4⟩
theorem mergeK_sorted (a b : List PEntry) (m : Nat) : sortK keyE (mergeK a b m) := by
  unfold sortK
  induction m with
  | zero => simp [mergeK]
  | succ k ih =>
    rw [mergeK, List.pairwise_append]
    refine ⟨ih, ?_, fun x hx y hy => ?_⟩
    · have := mergeE1_le a b k
      match h : mergeE1 a b k with
      | [] => simp
      | [_] => simp
      | _ :: _ :: _ => rw [h] at this; simp at this
    · have h1 := (mergeK_mem.1 hx).1
      have h2 := (mergeE1_mem.1 hy).1
      unfold keyE
      omega
theorem okB_merge {a b : List PEntry} (ha : ∀ x ∈ a, rightT x.tag = true) (hb : ∀ x ∈ b, rightT x.tag = true) : okB (mergeE a b) := by
  refine ⟨mergeK_sorted a b 4, fun x hx => ?_⟩
  obtain ⟨⟨h1, h2⟩, h3, h4⟩ := mergeK_mem.1 hx
  refine ⟨h1, h2, ?_, h4⟩
  rw [h3]
  exact newer_right (findE_right ha) (findE_right hb)
theorem okB.right {b : List PEntry} (h : okB b) : ∀ x ∈ b, rightT x.tag = true := fun x hx => (h.2 x hx).2.2.1
theorem findE_ok {b : List PEntry} (h : okB b) (k : Int) : findE b k = ⟨k, ⟨0, 0⟩, 0⟩ ∨ (0 ≤ k ∧ k < 4 ∧ 0 < (findE b k).tag.num ∧ lookK keyE b k = some (findE b k)) := by
  rw [findE_look]
  cases e : lookK keyE b k with
  | none => exact .inl rfl
  | some x =>
    obtain ⟨h1, h2⟩ := look_some e
    obtain ⟨h3, h4, _, h5⟩ := h.2 x h1
    unfold keyE at h2
    exact .inr ⟨by omega, by omega, h5, rfl⟩
theorem findE_merge {a b : List PEntry} (ha : okB a) (hb : okB b) (k : Int) : findE (mergeE a b) k = newerE (findE a k) (findE b k) := by
  have hk := newer_key (findE_key a k) (findE_key b k)
  have hn : newerE (findE a k) (findE b k) = ⟨k, ⟨0, 0⟩, 0⟩ ∨ (0 ≤ k ∧ k < 4 ∧ 0 < (newerE (findE a k) (findE b k)).tag.num) := by
    unfold newerE
    split
    · rcases findE_ok hb k with h | ⟨h1, h2, h3, _⟩
      · exact .inl h
      · exact .inr ⟨h1, h2, h3⟩
    · rcases findE_ok ha k with h | ⟨h1, h2, h3, _⟩
      · exact .inl h
      · exact .inr ⟨h1, h2, h3⟩
  rcases hn with h | ⟨h1, h2, h3⟩
  · rw [h, findE_look, look_none.2]
    · rfl
    · intro x hx hxk
      obtain ⟨_, h4, h5⟩ := mergeK_mem.1 hx
      unfold keyE at hxk
      rw [hxk] at h4
      rw [h4, h] at h5
      simp at h5
  · have hm : newerE (findE a k) (findE b k) ∈ mergeE a b := mergeK_mem.2 ⟨by rw [hk]; exact ⟨h1, by omega⟩, by rw [hk], h3⟩
    have := (look_mem (mergeK_sorted a b 4)).1 hm
    rw [show keyE (newerE (findE a k) (findE b k)) = k from hk] at this
    rw [findE_look, mergeE, this]
    rfl
theorem findE_one (e : PEntry) (k : Int) : findE [e] k = if e.key = k then e else ⟨k, ⟨0, 0⟩, 0⟩ := by
  unfold findE
  by_cases h : e.key = k
  · simp [h]
  · simp [h]
/-! ### cells -/
theorem ofC_merge {a b : List PCell} (ha : okCs a) (hb : okCs b) (n : Int) : ofC (mergeC a b) n = if (ofC a n).isSome then ofC a n else ofC b n := by
  have hm := okCs_merge a b
  cases h : ofC (mergeC a b) n with
  | some v =>
    obtain ⟨_, h2 | ⟨h2, h3⟩⟩ := mergeCK_mem.1 (ofC_some h)
    · simp only at h2; rw [h2]; simp
    · simp only at h2 h3; rw [h2, h3]; simp
  | none =>
    cases h1 : ofC a n with
    | some v =>
      have hin := ha.2 _ (ofC_some h1)
      exact absurd rfl (ofC_none.1 h ⟨n, v⟩ (mergeCK_mem.2 ⟨hin, .inl h1⟩))
    | none =>
      cases h2 : ofC b n with
      | some v =>
        have hin := hb.2 _ (ofC_some h2)
        exact absurd rfl (ofC_none.1 h ⟨n, v⟩ (mergeCK_mem.2 ⟨hin, .inr ⟨h1, h2⟩⟩))
      | none => simp
theorem ofC_one (c : PCell) (n : Int) : ofC [c] n = if c.node = n then some c.change else none := by
  unfold ofC
  by_cases h : c.node = n
  · simp [h]
  · simp [h]
/-- cells whose changes can be -/
def okCh (l : List PCell) : Prop := okCs l ∧ ∀ c ∈ l, rightV c.change = true ∧ ¬ sizeV c.change = 0
theorem checkC_iff : ∀ (b : List PCell) (last : Int), checkC last b = true ↔ b.Pairwise (fun x y => x.node < y.node) ∧ ∀ x ∈ b, last < x.node ∧ x.node < 6 ∧ rightV x.change = true ∧ ¬ sizeV x.change = 0
  | [], last => by simp [checkC]
  | y :: b, last => by
    rw [checkC, Bool.and_eq_true, checkC_iff b y.node, List.pairwise_cons]
    constructor
    · rintro ⟨h1, h2, h3⟩
      have h4 : last < y.node ∧ y.node < 6 ∧ rightV y.change = true ∧ ¬ sizeV y.change = 0 := by simpa [okC, and_assoc] using h1
      refine ⟨⟨fun x hx => (h3 x hx).1, h2⟩, fun x hx => ?_⟩
      rcases List.mem_cons.1 hx with rfl | hx
      · exact h4
      · have := h3 x hx; exact ⟨by have := h4.1; omega, this.2⟩
    · rintro ⟨⟨h1, h2⟩, h3⟩
      have h4 := h3 y (by simp)
      exact ⟨by simpa [okC, and_assoc] using h4, h2, fun x hx => ⟨h1 x hx, (h3 x (by simp [hx])).2⟩⟩
theorem okCh_iff (b : List PCell) : checkC (-1) b = true ↔ okCh b := by
  rw [checkC_iff]
  unfold okCh okCs
  constructor
  · rintro ⟨h1, h2⟩
    exact ⟨⟨h1, fun x hx => by have := h2 x hx; omega⟩, fun x hx => (h2 x hx).2.2⟩
  · rintro ⟨⟨h1, h2⟩, h3⟩
    exact ⟨h1, fun x hx => by have := h2 x hx; exact ⟨by omega, by omega, h3 x hx⟩⟩
theorem okCh_merge {a b : List PCell} (ha : okCh a) (hb : okCh b) : okCh (mergeC a b) := by
  refine ⟨okCs_merge a b, fun c hc => ?_⟩
  obtain ⟨_, h | ⟨_, h⟩⟩ := mergeCK_mem.1 hc
  · exact ha.2 _ (ofC_some h)
  · exact hb.2 _ (ofC_some h)
/-! ### states -/
/-- a state whose books and cells can be -/
structure OkT (n : Nat) (s : PState) : Prop extends OkN n s where
  bk : ∀ x ∈ s.books, okB x.book
  ck : ∀ x ∈ s.cells, okCh x.cells
theorem OkT.bookOk {n : Nat} {s : PState} (h : OkT n s) (v : PView) : okB (bookS s v) := by
  rw [bookS_look h.sb]
  cases e : lookK keyVB s.books (nameV v) with
  | none => exact okB_nil
  | some x => exact h.bk x (look_some e).1
theorem OkT.cellsOk {n : Nat} {s : PState} (h : OkT n s) (v : PView) : okCh (cellsS s v) := by
  rw [cellsS_look h.sc]
  cases e : lookK keyVC s.cells (nameV v) with
  | none => exact ⟨okCs_nil, fun x hx => by simp at hx⟩
  | some x => exact h.ck x (look_some e).1
theorem RightR.entry {r : PRec} (h : RightR r) (hk : r.kind = 1) : okB [r.entry] := by
  cases h with
  | value v e h hv h1 h2 h3 h4 =>
    subst h
    refine ⟨by simp [sortK], fun x hx => ?_⟩
    simp at hx; subst hx
    have := rightT_num h3
    exact ⟨h1, h2, h3, by omega⟩
  | cell v c h => subst h; simp at hk
  | mark v h => subst h; simp at hk
  | num k n h hk' => subst h; simp only at hk; omega
  | intent v u h => subst h; simp at hk
theorem RightR.ccell {r : PRec} (h : RightR r) (hk : r.kind = 2) : okCh [r.cell] := by
  cases h with
  | value v e h => subst h; simp at hk
  | cell v c h hv h1 h2 h3 h4 =>
    subst h
    refine ⟨okCs_one ⟨h1, h2⟩, fun x hx => ?_⟩
    simp at hx; subst hx
    exact ⟨h3, by omega⟩
  | mark v h => subst h; simp at hk
  | num k n h hk' => subst h; simp only at hk; omega
  | intent v u h => subst h; simp at hk
theorem okT_apply {n : Nat} {s : PState} (h : OkT n s) {r : PRec} (hr : rightR r = true) : OkT (n + 1) (applyS s r) := by
  have hn := okN_apply h.toOkN hr
  refine ⟨hn, fun x hx => ?_, fun x hx => ?_⟩
  · rw [look_mem hn.sb, apply_books] at hx
    split at hx
    · rename_i hk
      obtain rfl := Option.some.inj hx
      exact okB_merge (h.bookOk r.view).right ((rightR_of hr).entry hk.1).right
    · exact h.bk x (look_some hx).1
  · rw [look_mem hn.sc, apply_cells] at hx
    split at hx
    · rename_i hk
      obtain rfl := Option.some.inj hx
      show okCh (mergeS _ _)
      rw [mergeS_eq (h.cells r.view) (okCs_one (right_cell hr).2)]
      exact okCh_merge (h.cellsOk r.view) ((rightR_of hr).ccell hk.1)
    · exact h.ck x (look_some hx).1
theorem okT_new {v : PView} (h : rightV v = true) : OkT 0 (newS v) := ⟨okN_new h, fun x hx => by simp [newS] at hx, fun x hx => by simp [newS] at hx⟩
theorem okT_fold {v : PView} (hv : rightV v = true) {l : List PRec} (hl : ∀ r ∈ l, rightR r = true) (k : Nat) (hk : k ≤ l.length) : OkT k (foldS v (l.take k)) := by
  induction k with
  | zero => simpa [foldS] using okT_new hv
  | succ k ih =>
    have hx : l[k]? = some l[k] := List.getElem?_eq_getElem (by omega)
    rw [foldS_step hx]
    exact okT_apply (ih (by omega)) (hl _ (List.mem_of_getElem? hx))
theorem OkT.mono {n m : Nat} {s : PState} (h : OkT n s) (hn : n ≤ m) : OkT m s := ⟨h.toOkN.mono hn, h.bk, h.ck⟩
end Go.Proofs.YtjbbfiagijjdoaaGreat

/- Plain: what a node answers, and what is there behind it. No condition. -/
set_option linter.unusedSimpArgs false
set_option linter.unusedVariables false
set_option maxRecDepth 10000
namespace Go.Proofs.YtjbbfiagijjdoaaGreat
open Go Go.Rw Go.Proofs

/-- the answer's head -/
def ansM (me : Int) (q : PMsg) : PMsg := ⟨7, me, q.frm, q.inc, q.seq, q.view, [], []⟩
def servable (me : Int) (q : PMsg) : Bool := decide (q.to = me) && decide (0 ≤ q.kind ∧ q.kind ≤ 4)
def recC (v : PView) (c : PCell) : PRec := ⟨2, v, c, zE, 0⟩
def recE (v : PView) (x : PEntry) : PRec := ⟨1, v, zC, x, 0⟩
def recV (v : PView) : PRec := ⟨3, v, zC, zE, 0⟩
/-- what is to be written -/
def wroteS (s : PState) (q : PMsg) : List PRec :=
  if q.kind = 1 then (newsC (cellsS s q.view) q.cells).map (recC q.view)
  else if q.kind = 3 then (newsE (bookS s q.view) q.book).map (recE q.view)
  else if q.kind = 4 then (if ¬ s.held = q.view ∧ withinV s.held q.view = true then [recV q.view] else [])
  else []
/-- what is answered -/
def tellS (me : Int) (s : PState) (q : PMsg) : PMsg :=
  if q.kind = 0 then { ansM me q with kind := 5, cells := cellsS s q.view }
  else if q.kind = 2 then { ansM me q with kind := 6, book := bookS s q.view }
  else ansM me q
def recsS (me : Int) (s : PState) (q : PMsg) : List PRec := if servable me q = true then wroteS s q else []
def answerS (me : Int) (s : PState) (q : PMsg) : PMsg := if servable me q = true then tellS me s q else zM

theorem withinV_self (v : PView) : withinV v v = true := by
  have h : ∀ x : Int, andN x x = 0 := fun x => by
    unfold andN setN
    simp
  simp [withinV, minusV, h]
section
variable {q : PMsg}
theorem RightQ.cells (h : rightM q = true) : okCh q.cells := by
  simp only [rightM, Bool.and_eq_true, betweenB, decide_eq_true_eq] at h
  exact (okCh_iff _).1 h.1.2
theorem RightQ.book (h : rightM q = true) : okB q.book := by
  simp only [rightM, Bool.and_eq_true, betweenB, decide_eq_true_eq] at h
  exact (okB_iff _).1 h.2
end
/-! ### behind what was written -/
/-- the state behind what was written -/
def behindS (s : PState) (q : PMsg) : PState := (wroteS s q).foldl applyS s
section
variable {n : Nat} {s : PState} {q : PMsg}
end
end Go.Proofs.YtjbbfiagijjdoaaGreat

/- Contracts: the document's books, cells and intents out of all records. No condition. -/
set_option linter.unusedSimpArgs false
set_option linter.unusedVariables false
set_option maxRecDepth 10000
namespace Go.Proofs.YtjbbfiagijjdoaaGreat
open Go Go.Rw Go.Proofs
-- a goal is never to be run by the elaborator
attribute [local irreducible] awp aops aop aopsE aeff

def bookL (l : List PRec) (v : PView) : List PEntry := l.foldl (fun b r => if r.kind = 1 ∧ r.view = v then mergeD b [r.entry] else b) []
def cellsL (l : List PRec) (v : PView) : List PCell := l.foldl (fun b r => if r.kind = 2 ∧ r.view = v then mergeC b [r.cell] else b) []
def intentL (l : List PRec) (v : PView) : Option PView := (l.find? fun r => decide (r.kind = 5 ∧ r.view = v)).map (·.cell.change)
theorem bookL_step {l : List PRec} {k : Nat} {r : PRec} {v : PView} (h : l[k]? = some r) : bookL (l.take (k + 1)) v = if r.kind = 1 ∧ r.view = v then mergeD (bookL (l.take k) v) [r.entry] else bookL (l.take k) v := by
  unfold bookL
  rw [List.take_add_one, h, List.foldl_append]; rfl
theorem cellsL_step {l : List PRec} {k : Nat} {r : PRec} {v : PView} (h : l[k]? = some r) : cellsL (l.take (k + 1)) v = if r.kind = 2 ∧ r.view = v then mergeC (cellsL (l.take k) v) [r.cell] else cellsL (l.take k) v := by
  unfold cellsL
  rw [List.take_add_one, h, List.foldl_append]; rfl
theorem view_eq {a b : PView} : a = b ↔ a.add = b.add ∧ a.del = b.del := by cases a; cases b; simp
def BlI (l : List PRec) (v : PView) (b1 : Nat) (t : Nat → AV) (h : Nat → Option (List AV)) : Prop := ∃ (k : Nat) (tag : Tag), t 3 = .ptr b1 0 ∧ t 5 = .sl tag (eEs (bookL (l.take k) v)) ∧ t 9 = .sl .no (eRs l) ∧ t 10 = eI l.length ∧ t 11 = eI k ∧ k ≤ l.length ∧ h b1 = some (eV v)
def BlM (l : List PRec) (v : PView) (t : Nat → AV) (h : Nat → Option (List AV)) : Prop := ∃ tag : Tag, t 5 = .sl tag (eEs (bookL l v))
theorem book12_spec (l : List PRec) (v : PView) (hl : l.length ≤ 1000000000) : ASpec Tryz.prog 38 [.sl .no (eRs l), .agg (eV v)] (fun r => ∃ tag, r = .sl tag (eEs (bookL l v))) := by
  refine ASpec.of_awp Tryz.func38 (by kernel_rfl) rfl (by rw [Tryz.results38]) Tryz.ntmps38 ?_
  simp -implicitDefEqProofs [eV]
  refine allocK.intro (fun b1 hb1 => ?_)
  simp -implicitDefEqProofs
  refine bsK.std ?_
  simp -implicitDefEqProofs
  intro _
  refine loopK.post (BlI l v b1) (fun t => l.length - natOf (t 11)) (BlM l v) ?_ ?_ ?_
  · exact ⟨0, _, by simp, by simp [bookL]; rfl, by simp, by simp, by simp, by omega, by simp [eV]⟩
  · rintro t hh ⟨k, tag, g3, g5, g9, g10, g11, hk, e3⟩
    by_cases hlt : k < l.length
    · have hlt' : (k : Int) < (l.length : Int) := by omega
      have hw : IntKind.i64.wrap ((k : Int) + 1) = ((k + 1 : Nat) : Int) := by rw [w64 (by omega) (by omega)]; omega
      obtain ⟨r, hx⟩ : ∃ r, l[k]? = some r := ⟨l[k], by simp [hlt]⟩
      have hst := bookL_step (v := v) hx
      simp -implicitDefEqProofs [g9, g10, g11, hlt', hx, eRc]
      refine allocK.intro (fun b2 hb2 => ?_)
      have n12 : ¬ b1 = b2 := by rintro rfl; rw [e3] at hb2; simp at hb2
      have n21 : ¬ b2 = b1 := fun h => n12 h.symm
      have e3' := e3
      rw [eV] at e3'
      by_cases h1 : r.kind = 1
      · by_cases h2 : r.view.add = v.add
        · by_cases h3 : r.view.del = v.del
          · rw [if_pos ⟨h1, view_eq.2 ⟨h2, h3⟩⟩] at hst
            have hm := merge7_spec (bookL (l.take k) v) [r.entry]
            generalize bookL (l.take k) v = cur at *
            simp -implicitDefEqProofs [g3, e3', n12, n21, h1, h2, h3, g5]
            refine CallK.via hm (by simp [eEs, eE]) ?_
            rintro _ ⟨tag2, rfl⟩
            simp -implicitDefEqProofs [g11, hw]
            exact ⟨⟨k + 1, _, by simp [g3], by rw [hst]; simp; rfl, by simp [g9], by simp [g10], by simp, by omega, by simp [n12, n21, e3]⟩, by omega⟩
          · rw [if_neg (fun h => h3 (view_eq.1 h.2).2)] at hst
            have h3' : (r.view.del == v.del) = false := by simpa using h3
            simp -implicitDefEqProofs [g3, e3', n12, n21, h1, h2, h3, h3', g11, hw]
            exact ⟨⟨k + 1, tag, by simp [g3], by rw [hst]; simp [g5], by simp [g9], by simp [g10], by simp, by omega, by simp [n12, n21, e3]⟩, by omega⟩
        · rw [if_neg (fun h => h2 (view_eq.1 h.2).1)] at hst
          have h2' : (r.view.add == v.add) = false := by simpa using h2
          simp -implicitDefEqProofs [g3, e3', n12, n21, h1, h2, h2', g11, hw]
          exact ⟨⟨k + 1, tag, by simp [g3], by rw [hst]; simp [g5], by simp [g9], by simp [g10], by simp, by omega, by simp [n12, n21, e3]⟩, by omega⟩
      · rw [if_neg (fun h => h1 h.1)] at hst
        simp -implicitDefEqProofs [g3, n12, n21, h1, g11, hw]
        exact ⟨⟨k + 1, tag, by simp [g3], by rw [hst]; simp [g5], by simp [g9], by simp [g10], by simp, by omega, by simp [n12, n21, e3]⟩, by omega⟩
    · have hlt' : ¬ (k : Int) < (l.length : Int) := by omega
      rw [List.take_of_length_le (by omega)] at g5
      simp -implicitDefEqProofs [g10, g11, hlt']
      exact ⟨tag, by simp [g5]⟩
  rintro t hh ⟨tag, g5⟩
  simp -implicitDefEqProofs [g5]
def ClI (l : List PRec) (v : PView) (b1 : Nat) (t : Nat → AV) (h : Nat → Option (List AV)) : Prop := ∃ (k : Nat) (tag : Tag), t 3 = .ptr b1 0 ∧ t 5 = .sl tag (eCs (cellsL (l.take k) v)) ∧ t 9 = .sl .no (eRs l) ∧ t 10 = eI l.length ∧ t 11 = eI k ∧ k ≤ l.length ∧ h b1 = some (eV v)
def ClM (l : List PRec) (v : PView) (t : Nat → AV) (h : Nat → Option (List AV)) : Prop := ∃ tag : Tag, t 5 = .sl tag (eCs (cellsL l v))
theorem cells12_spec (l : List PRec) (v : PView) (hl : l.length ≤ 1000000000) : ASpec Tryz.prog 41 [.sl .no (eRs l), .agg (eV v)] (fun r => ∃ tag, r = .sl tag (eCs (cellsL l v))) := by
  refine ASpec.of_awp Tryz.func41 (by kernel_rfl) rfl (by rw [Tryz.results41]) Tryz.ntmps41 ?_
  simp -implicitDefEqProofs [eV]
  refine allocK.intro (fun b1 hb1 => ?_)
  simp -implicitDefEqProofs
  refine bsK.std ?_
  simp -implicitDefEqProofs
  intro _
  refine loopK.post (ClI l v b1) (fun t => l.length - natOf (t 11)) (ClM l v) ?_ ?_ ?_
  · exact ⟨0, _, by simp, by simp [cellsL]; rfl, by simp, by simp, by simp, by omega, by simp [eV]⟩
  · rintro t hh ⟨k, tag, g3, g5, g9, g10, g11, hk, e3⟩
    by_cases hlt : k < l.length
    · have hlt' : (k : Int) < (l.length : Int) := by omega
      have hw : IntKind.i64.wrap ((k : Int) + 1) = ((k + 1 : Nat) : Int) := by rw [w64 (by omega) (by omega)]; omega
      obtain ⟨r, hx⟩ : ∃ r, l[k]? = some r := ⟨l[k], by simp [hlt]⟩
      have hst := cellsL_step (v := v) hx
      simp -implicitDefEqProofs [g9, g10, g11, hlt', hx, eRc]
      refine allocK.intro (fun b2 hb2 => ?_)
      have n12 : ¬ b1 = b2 := by rintro rfl; rw [e3] at hb2; simp at hb2
      have n21 : ¬ b2 = b1 := fun h => n12 h.symm
      have e3' := e3
      rw [eV] at e3'
      by_cases h1 : r.kind = 2
      · by_cases h2 : r.view.add = v.add
        · by_cases h3 : r.view.del = v.del
          · rw [if_pos ⟨h1, view_eq.2 ⟨h2, h3⟩⟩] at hst
            have hm := merge10_spec (cellsL (l.take k) v) [r.cell]
            generalize cellsL (l.take k) v = cur at *
            simp -implicitDefEqProofs [g3, e3', n12, n21, h1, h2, h3, g5]
            refine CallK.via hm (by simp [eCs, eC]) ?_
            rintro _ ⟨tag2, rfl⟩
            simp -implicitDefEqProofs [g11, hw]
            exact ⟨⟨k + 1, _, by simp [g3], by rw [hst]; simp; rfl, by simp [g9], by simp [g10], by simp, by omega, by simp [n12, n21, e3]⟩, by omega⟩
          · rw [if_neg (fun h => h3 (view_eq.1 h.2).2)] at hst
            have h3' : (r.view.del == v.del) = false := by simpa using h3
            simp -implicitDefEqProofs [g3, e3', n12, n21, h1, h2, h3, h3', g11, hw]
            exact ⟨⟨k + 1, tag, by simp [g3], by rw [hst]; simp [g5], by simp [g9], by simp [g10], by simp, by omega, by simp [n12, n21, e3]⟩, by omega⟩
        · rw [if_neg (fun h => h2 (view_eq.1 h.2).1)] at hst
          have h2' : (r.view.add == v.add) = false := by simpa using h2
          simp -implicitDefEqProofs [g3, e3', n12, n21, h1, h2, h2', g11, hw]
          exact ⟨⟨k + 1, tag, by simp [g3], by rw [hst]; simp [g5], by simp [g9], by simp [g10], by simp, by omega, by simp [n12, n21, e3]⟩, by omega⟩
      · rw [if_neg (fun h => h1 h.1)] at hst
        simp -implicitDefEqProofs [g3, n12, n21, h1, g11, hw]
        exact ⟨⟨k + 1, tag, by simp [g3], by rw [hst]; simp [g5], by simp [g9], by simp [g10], by simp, by omega, by simp [n12, n21, e3]⟩, by omega⟩
    · have hlt' : ¬ (k : Int) < (l.length : Int) := by omega
      rw [List.take_of_length_le (by omega)] at g5
      simp -implicitDefEqProofs [g10, g11, hlt']
      exact ⟨tag, by simp [g5]⟩
  rintro t hh ⟨tag, g5⟩
  simp -implicitDefEqProofs [g5]
end Go.Proofs.YtjbbfiagijjdoaaGreat

/- Do cells clash, of logs put together: by a map, and by each pair. No condition. -/
set_option linter.unusedSimpArgs false
set_option linter.unusedVariables false
set_option maxRecDepth 10000
namespace Go.Proofs.YtjbbfiagijjdoaaGreat
open Go Go.Rw Go.Proofs
-- a goal is never to be run by the elaborator
attribute [local irreducible] awp aops aop aopsE aeff

/-! ### plain -/
section
variable {α : Type} [DecidableEq α] {β : Type}
/-- what stands at a key -/
def lookM (k : α) (m : List (α × β × Nat)) : Option β := (m.find? fun e => decide (k = e.1)).map (·.2.1)
theorem findM_shift (k : α) : ∀ (m : List (α × β × Nat)) (i : Nat), findM k m (i + 1) = (findM k m i).map fun p => (p.1 + 1, p.2)
  | [], _ => rfl
  | e :: m, i => by
    unfold findM
    split
    · rfl
    · exact findM_shift k m (i + 1)
theorem findM_look (k : α) : ∀ (m : List (α × β × Nat)) (i : Nat), (findM k m i).map (·.2) = lookM k m
  | [], _ => rfl
  | e :: m, i => by
    unfold findM lookM
    rw [List.find?_cons]
    by_cases h : k = e.1
    · simp [h]
    · simp only [h, if_false, decide_false]
      exact findM_look k m (i + 1)
/-- a value put at a key, step by step -/
def putL (k : α) (v : β) : List (α × β × Nat) → Nat → List (α × β × Nat)
  | [], c => [(k, v, c)]
  | e :: m, c => if k = e.1 then (k, v, e.2.2) :: m else e :: putL k v m c
theorem putM_eq (k : α) (v : β) : ∀ (m : List (α × β × Nat)) (c : Nat), (putM k v m c).1 = putL k v m c
  | [], _ => rfl
  | e :: m, c => by
    have ih := putM_eq k v m c
    unfold putM findM putL
    by_cases h : k = e.1
    · simp [h]
    · simp only [h, if_false]
      rw [findM_shift]
      unfold putM at ih
      cases hf : findM k m 0 with
      | none => rw [hf] at ih; simp only [Option.map_none] at ih ⊢; rw [← ih]; rfl
      | some p => rw [hf] at ih; simp only [Option.map_some] at ih ⊢; rw [← ih]; rfl
theorem lookM_put (k : α) (v : β) (k' : α) : ∀ (m : List (α × β × Nat)) (c : Nat), lookM k' (putL k v m c) = if k' = k then some v else lookM k' m
  | [], c => by unfold putL lookM; by_cases h : k' = k <;> simp [h]
  | e :: m, c => by
    unfold putL
    by_cases h : k = e.1
    · subst h
      simp only [if_true, lookM, List.find?_cons]
      by_cases h2 : k' = e.1
      · simp [h2]
      · simp [h2]
    · simp only [h, if_false]
      have ih := lookM_put k v k' m c
      unfold lookM at ih ⊢
      rw [List.find?_cons, List.find?_cons]
      by_cases h2 : k' = e.1
      · have h3 : ¬ k' = k := fun h3 => h (h3.symm.trans h2)
        simp [h2, h3]
        intro h4; exact absurd h4.symm h
      · simp only [h2, decide_false]
        exact ih
end
def eVv (v : PView) : Value := .agg #[.int .i64 v.add, .int .i64 v.del]
def plR (r : PRec) : PPlace := ⟨r.view, r.cell.node⟩
/-- do two records say two things of one cell? -/
def clashP (a b : PRec) : Bool := decide (a.kind = 2 ∧ b.kind = 2 ∧ plR a = plR b ∧ ¬ a.cell.change = b.cell.change)
def clashR (l : List PRec) : Bool := l.any fun a => l.any (clashP a)
/-- what the map tells of the records so far -/
def InvC (l : List PRec) (m : List (PPlace × PView × Nat)) : Prop :=
  (∀ p v, lookM p m = some v → ∃ r ∈ l, r.kind = 2 ∧ plR r = p ∧ r.cell.change = v) ∧ ∀ r ∈ l, r.kind = 2 → lookM (plR r) m = some r.cell.change
theorem invC_nil : InvC [] [] := ⟨fun p v h => by simp [lookM] at h, fun r h => by simp at h⟩
theorem invC_skip {l : List PRec} {m : List (PPlace × PView × Nat)} (h : InvC l m) {r : PRec} (hr : ¬ r.kind = 2) : InvC (l ++ [r]) m := by
  refine ⟨fun p v hp => ?_, fun x hx hk => ?_⟩
  · obtain ⟨x, h1, h2⟩ := h.1 p v hp
    exact ⟨x, by simp [h1], h2⟩
  · rcases List.mem_append.1 hx with h1 | h1
    · exact h.2 x h1 hk
    · simp at h1; rw [h1] at hk; exact absurd hk hr
theorem invC_put {l : List PRec} {m : List (PPlace × PView × Nat)} (h : InvC l m) {r : PRec} (hr : r.kind = 2) (hl : lookM (plR r) m = none ∨ lookM (plR r) m = some r.cell.change) (c : Nat) : InvC (l ++ [r]) (putL (plR r) r.cell.change m c) := by
  refine ⟨fun p v hp => ?_, fun x hx hk => ?_⟩
  · rw [lookM_put] at hp
    split at hp
    · rename_i h1; obtain rfl := Option.some.inj hp; exact ⟨r, by simp, hr, h1.symm, rfl⟩
    · obtain ⟨x, h1, h2⟩ := h.1 p v hp
      exact ⟨x, by simp [h1], h2⟩
  · rw [lookM_put]
    rcases List.mem_append.1 hx with h1 | h1
    · have h2 := h.2 x h1 hk
      split
      · rename_i h3
        rw [h3] at h2
        rcases hl with h4 | h4
        · rw [h4] at h2; cases h2
        · rw [h4] at h2; exact h2
      · exact h2
    · simp at h1; rw [h1]; simp
theorem clash_end {l : List PRec} {m : List (PPlace × PView × Nat)} (h : InvC l m) : clashR l = false := by
  unfold clashR
  rw [List.any_eq_false]
  intro a ha
  rw [Bool.not_eq_true, List.any_eq_false]
  intro b hb
  unfold clashP
  rw [decide_eq_true_eq]
  rintro ⟨h1, h2, h3, h4⟩
  have e1 := h.2 a ha h1
  have e2 := h.2 b hb h2
  rw [h3, e2] at e1
  exact h4 (Option.some.inj e1).symm
theorem clash_hit {l : List PRec} {k : Nat} {m : List (PPlace × PView × Nat)} (h : InvC (l.take k) m) {r : PRec} (hx : l[k]? = some r) (hr : r.kind = 2) {v : PView} (hl : lookM (plR r) m = some v) (hv : ¬ v = r.cell.change) : clashR l = true := by
  obtain ⟨x, h1, h2, h3, h4⟩ := h.1 _ _ hl
  unfold clashR
  rw [List.any_eq_true]
  refine ⟨x, List.mem_of_mem_take h1, ?_⟩
  rw [List.any_eq_true]
  refine ⟨r, List.mem_of_getElem? hx, ?_⟩
  unfold clashP
  rw [decide_eq_true_eq]
  exact ⟨h2, hr, h3, by rw [h4]; exact hv⟩
/-! ### the walk -/
theorem under_map : Tryz.prog.underlying 132 = some (.map 135 24) := Tryz.underlying132
theorem zero_view (w : World) : (zeroValue 24).run Tryz.prog w = .ok (eVv ⟨0, 0⟩) w := by
  have h : (Tryz.prog.info? 24).bind (·.zero) = some (eVv ⟨0, 0⟩) := by kernel_rfl
  obtain ⟨i, h1, h2⟩ := Option.bind_eq_some_iff.1 h
  simp [zeroValue, typeInfo, h1, h2]
theorem rep_eV {I : Imm} (v : PView) : Rep I (.agg (eV v)) (eVv v) := rep_agg [.int .i64 v.add, .int .i64 v.del]
theorem rep_look {I : Imm} (k : PPlace) (m : List (PPlace × PView × Nat)) : Rep I (.tup [.agg (eV ((lookM k m).getD ⟨0, 0⟩)), .v (.bool (lookM k m).isSome)]) (lookV eVv (eVv ⟨0, 0⟩) (findM k m 0)) := by
  have h := findM_look k m 0
  cases hf : findM k m 0 with
  | none => rw [hf] at h; simp only [Option.map_none] at h; rw [← h]; exact rep_tup2 (rep_eV _) (.v _)
  | some p => rw [hf] at h; simp only [Option.map_some] at h; rw [← h]; exact rep_tup2 (rep_eV _) (.v _)
attribute [local simp] obW
def AcI (rs : List PRec) (g : Nat) (t : Nat → AV) (h : Nat → Option (List AV)) : Prop := ∃ (k c : Nat) (m : List (PPlace × PView × Nat)), t 3 = .ob true g (mObj eP eVv m c) ∧ (∃ tag, t 11 = .sl tag (eRs rs)) ∧ t 12 = eI rs.length ∧ t 13 = eI k ∧ k ≤ rs.length ∧ InvC (rs.take k) m
def AcM (rs : List PRec) (t : Nat → AV) (h : Nat → Option (List AV)) : Prop := clashR rs = false
theorem clash22_spec (ls : List (List PRec)) (hl : ls.flatten.length ≤ 100000000) : ASpec Tryz.prog 50 [.sl .no (eRss ls)] (· = .v (.bool (clashR ls.flatten))) := by
  refine ASpec.of_awp Tryz.func50 (by kernel_rfl) rfl (by rw [Tryz.results50]) Tryz.ntmps50 ?_
  simp -implicitDefEqProofs
  refine makeMapR eP eVv (fun g => ?_)
  simp -implicitDefEqProofs
  by_cases h0 : ls.flatten = []
  · refine CallK.with (concat_recs_nil ls h0) (by simp) ?_
    simp -implicitDefEqProofs
    refine loopK.post (fun t h => t 12 = eI 0 ∧ t 13 = eI 0) (fun _ => 0) (fun _ _ => True) ?_ ?_ ?_
    · simp
    · rintro t hh ⟨g12, g13⟩
      simp -implicitDefEqProofs [g12, g13]
    rintro t hh -
    simp -implicitDefEqProofs [h0, clashR]
  have hpos : 0 < ls.flatten.length := List.length_pos_iff.2 h0
  refine CallK.via (concat_recs_pos ls hpos hl) (by simp) ?_
  rintro _ ⟨tag, rfl⟩
  generalize ls.flatten = rs at *
  simp -implicitDefEqProofs
  intro _
  refine loopK.post (AcI rs g) (fun t => rs.length - natOf (t 13)) (AcM rs) ?_ ?_ ?_
  · exact ⟨0, 0, [], by simp, ⟨tag, by simp⟩, by simp, by simp, by omega, invC_nil⟩
  · rintro t hh ⟨k, c, m, g3, ⟨tag, g11⟩, g12, g13, hk, hi⟩
    by_cases hlt : k < rs.length
    · have hlt' : (k : Int) < (rs.length : Int) := by omega
      have hw : IntKind.i64.wrap ((k : Int) + 1) = ((k + 1 : Nat) : Int) := by rw [w64 (by omega) (by omega)] <;> omega
      obtain ⟨r, hx⟩ : ∃ r, rs[k]? = some r := ⟨rs[k], by simp [hlt]⟩
      have htk : rs.take (k + 1) = rs.take k ++ [r] := by rw [List.take_add_one, hx]; rfl
      have hm13 : natOf (t 13) = k := by rw [g13]; simp
      rw [hm13]
      simp -implicitDefEqProofs [g11, g12, g13, hlt', hx, eRc]
      refine allocK.intro (fun b1 hb1 => ?_)
      by_cases hk2 : r.kind = 2
      · simp -implicitDefEqProofs [hk2]
        refine allocK.intro (fun b2 hb2 => ?_)
        have n12 : ¬ b1 = b2 := by rintro rfl; simp at hb2
        have n21 : ¬ b2 = b1 := fun h => n12 h.symm
        simp -implicitDefEqProofs [n12, n21, g3]
        refine lookupR (ev := eVv) (g := g) keyT_place under_map (plR r) (eVv ⟨0, 0⟩) (j := 3) (m := m) (clock := c) (by simp [ASt.ev]) (by simp [g3]) (fun I u h => rep_vals (l := [.int .i64 r.view.add, .int .i64 r.view.del, .int .i64 r.cell.node]) (by simpa [ASt.ev] using h)) zero_view (.tup [.agg (eV ((lookM (plR r) m).getD ⟨0, 0⟩)), .v (.bool (lookM (plR r) m).isSome)]) (fun I => rep_look _ _) rfl ?_
        cases hlk : lookM (plR r) m with
        | none =>
          simp -implicitDefEqProofs [eV]
          refine allocK.intro (fun b3 hb3 => ?_)
          have n13 : ¬ b1 = b3 := by rintro rfl; simp [n12, n21] at hb3
          have n31 : ¬ b3 = b1 := fun h => n13 h.symm
          have n23 : ¬ b2 = b3 := by rintro rfl; simp at hb3
          have n32 : ¬ b3 = b2 := fun h => n23 h.symm
          simp -implicitDefEqProofs [n12, n21, n13, n31, n23, n32, g3]
          refine mapUpdateR (ev := eVv) (g := g) keyT_place under_map (plR r) r.cell.change (j := 3) (m := m) (clock := c) (by simp [ASt.ev]) (by simp [g3]) (fun I u h => rep_vals (l := [.int .i64 r.view.add, .int .i64 r.view.del, .int .i64 r.cell.node]) (by simpa [ASt.ev] using h)) (fun I u h => rep_vals (l := [.int .i64 r.cell.change.add, .int .i64 r.cell.change.del]) (by simpa [ASt.ev] using h)) ?_
          simp -implicitDefEqProofs [g13, hw]
          exact ⟨⟨k + 1, (putM (plR r) r.cell.change m c).2, (putM (plR r) r.cell.change m c).1, by simp, ⟨tag, by simp [g11]⟩, by simp [g12], by simp, by omega, by rw [putM_eq, htk]; exact invC_put hi hk2 (.inl hlk) c⟩, by omega⟩
        | some v =>
          simp -implicitDefEqProofs [eV]
          refine allocK.intro (fun b3 hb3 => ?_)
          have n13 : ¬ b1 = b3 := by rintro rfl; simp [n12, n21] at hb3
          have n31 : ¬ b3 = b1 := fun h => n13 h.symm
          have n23 : ¬ b2 = b3 := by rintro rfl; simp at hb3
          have n32 : ¬ b3 = b2 := fun h => n23 h.symm
          by_cases hv : v = r.cell.change
          · subst hv
            simp -implicitDefEqProofs [n12, n21, n13, n31, n23, n32, g3]
            refine mapUpdateR (ev := eVv) (g := g) keyT_place under_map (plR r) r.cell.change (j := 3) (m := m) (clock := c) (by simp [ASt.ev]) (by simp [g3]) (fun I u h => rep_vals (l := [.int .i64 r.view.add, .int .i64 r.view.del, .int .i64 r.cell.node]) (by simpa [ASt.ev] using h)) (fun I u h => rep_vals (l := [.int .i64 r.cell.change.add, .int .i64 r.cell.change.del]) (by simpa [ASt.ev] using h)) ?_
            simp -implicitDefEqProofs [g13, hw]
            exact ⟨⟨k + 1, (putM (plR r) r.cell.change m c).2, (putM (plR r) r.cell.change m c).1, by simp, ⟨tag, by simp [g11]⟩, by simp [g12], by simp, by omega, by rw [putM_eq, htk]; exact invC_put hi hk2 (.inr hlk) c⟩, by omega⟩
          · have hv2 := ne_two (fun h => hv (view_eq.2 h))
            have hv3 : (v.add == r.cell.change.add && v.del == r.cell.change.del) = false := by
              cases h5 : (v.add == r.cell.change.add && v.del == r.cell.change.del)
              · rfl
              · simp at h5; exact absurd (view_eq.2 h5) hv
            have hc := clash_hit hi hx hk2 hlk hv
            simp -implicitDefEqProofs [n12, n21, n13, n31, n23, n32, g3, hv2, hv3, hc]
      · have hi2 := invC_skip hi hk2
        rw [← htk] at hi2
        simp -implicitDefEqProofs [hk2, g13, hw]
        exact ⟨⟨k + 1, c, m, by simp [g3], ⟨tag, by simp [g11]⟩, by simp [g12], by simp, by omega, hi2⟩, by omega⟩
    · have hlt' : ¬ (k : Int) < (rs.length : Int) := by omega
      rw [List.take_of_length_le (by omega)] at hi
      simp -implicitDefEqProofs [g12, g13, hlt']
      exact clash_end hi
  rintro t hh hm
  rw [AcM] at hm
  simp -implicitDefEqProofs [hm]
end Go.Proofs.YtjbbfiagijjdoaaGreat

/- Contracts: the document's: all records, do they clash, has a tag two values. No condition. -/
set_option linter.unusedSimpArgs false
set_option linter.unusedVariables false
set_option maxRecDepth 10000
namespace Go.Proofs.YtjbbfiagijjdoaaGreat
open Go Go.Rw Go.Proofs
-- a goal is never to be run by the elaborator
attribute [local irreducible] awp aops aop aopsE aeff

def AlI (ls : List (List PRec)) (t : Nat → AV) (_ : Nat → Option (List AV)) : Prop := ∃ (k : Nat) (tag : Tag), t 7 = .sl .no (eRss ls) ∧ t 8 = eI ls.length ∧ t 9 = eI k ∧ k ≤ ls.length ∧ t 3 = .sl tag (eRs (ls.take k).flatten) ∧ appOK tag 66 11
def AlM (ls : List (List PRec)) (t : Nat → AV) (_ : Nat → Option (List AV)) : Prop := ∃ tag : Tag, t 3 = .sl tag (eRs ls.flatten)
theorem all22_spec (ls : List (List PRec)) (hl : ls.flatten.length ≤ 100000000) : ASpec Tryz.prog 112 [.sl .no (eRss ls)] (fun r => ∃ tag, r = .sl tag (eRs ls.flatten)) := by
  refine ASpec.of_awp Tryz.func112 (by kernel_rfl) rfl (by rw [Tryz.results112]) Tryz.ntmps112 ?_
  simp -implicitDefEqProofs
  refine bsK.std ?_
  simp -implicitDefEqProofs
  intro _
  refine loopK.post (AlI ls) (fun t => ls.length - natOf (t 9)) (AlM ls) ?_ ?_ ?_
  · exact ⟨0, _, by simp, by simp, by simp, by omega, by simp [eRs]; rfl, by simp⟩
  · rintro t hh ⟨k, tag, g7, g8, g9, hk, g3, gt⟩
    by_cases hlt : k < ls.length
    · have hlt' : (k : Int) < (ls.length : Int) := by omega
      obtain ⟨l, hx⟩ : ∃ l, ls[k]? = some l := ⟨ls[k], by simp [hlt]⟩
      have hw : IntKind.i64.wrap ((k : Int) + 1) = ((k + 1 : Nat) : Int) := by rw [w64 (by omega) (by omega)] <;> omega
      have hf := take_flat hx
      have hle := flat_le ls (k + 1)
      rw [hf, List.length_append] at hle
      generalize (ls.take k).flatten = cur at *
      simp -implicitDefEqProofs [g7, g8, g9, hlt', hx, g3, gt, hw]
      exact ⟨by omega, ⟨k + 1, appTag tag 66 11 (eRs l), by simp [g7], by simp [g8], by simp, by omega, by rw [hf]; simp [eRs], by simp [gt]⟩, by omega⟩
    · have hlt' : ¬ (k : Int) < (ls.length : Int) := by omega
      rw [List.take_of_length_le (by omega)] at g3
      simp -implicitDefEqProofs [g8, g9, hlt']
      exact ⟨tag, by simp [g3]⟩
  rintro t hh ⟨tag, g3⟩
  simp -implicitDefEqProofs [g3]
theorem veq2 (a b : PView) : (a.add == b.add && a.del == b.del) = decide (a = b) := by
  by_cases h : a = b
  · subst h; simp
  · cases h2 : (a.add == b.add && a.del == b.del)
    · simp [h]
    · simp at h2; exact absurd (view_eq.2 h2) h
theorem teq2 (a b : PTag) : (a.num == b.num && a.node == b.node) = decide (a = b) := by
  cases a; cases b
  simp [Bool.decide_and]
  rfl
/-- do two entries of one tag differ? -/
def tagsP (a b : PRec) : Bool := decide (a.kind = 1 ∧ b.kind = 1 ∧ a.entry.tag = b.entry.tag) && !sameE a.entry b.entry
def tagsR (l : List PRec) : Bool := l.any fun a => l.any (tagsP a)

def RcI (ls : List (List PRec)) (rs : List PRec) (t : Nat → AV) (h : Nat → Option (List AV)) : Prop := ∃ k : Nat, t 0 = .sl .no (eRss ls) ∧ (∃ tag, t 8 = .sl tag (eRs rs)) ∧ t 9 = eI rs.length ∧ t 10 = eI k ∧ k ≤ rs.length ∧ ∀ a ∈ rs.take k, ∀ b ∈ rs, clashP a b = false
def RcM (rs : List PRec) (t : Nat → AV) (h : Nat → Option (List AV)) : Prop := clashR rs = false
def RcJ (ls : List (List PRec)) (rs : List PRec) (k : Nat) (a : PRec) (b1 : Nat) (t : Nat → AV) (h : Nat → Option (List AV)) : Prop := ∃ j : Nat, t 0 = .sl .no (eRss ls) ∧ (∃ tag, t 8 = .sl tag (eRs rs)) ∧ t 9 = eI rs.length ∧ t 10 = eI k ∧ t 4 = .ptr b1 0 ∧ (∃ tag, t 15 = .sl tag (eRs rs)) ∧ t 16 = eI rs.length ∧ t 17 = eI j ∧ j ≤ rs.length ∧ h b1 = some (eRc a) ∧ ∀ b ∈ rs.take j, clashP a b = false
def RcN (ls : List (List PRec)) (rs : List PRec) (k : Nat) (a : PRec) (t : Nat → AV) (h : Nat → Option (List AV)) : Prop := t 0 = .sl .no (eRss ls) ∧ (∃ tag, t 8 = .sl tag (eRs rs)) ∧ t 9 = eI rs.length ∧ t 10 = eI k ∧ ∀ b ∈ rs, clashP a b = false
theorem clash22r_spec (ls : List (List PRec)) (hl : ls.flatten.length ≤ 100000000) : ASpec Tryz.prog 51 [.sl .no (eRss ls)] (· = .v (.bool (clashR ls.flatten))) := by
  refine ASpec.of_awp Tryz.func51 (by kernel_rfl) rfl (by rw [Tryz.results51]) Tryz.ntmps51 ?_
  have hA := all22_spec ls hl
  generalize ls.flatten = rs at *
  simp -implicitDefEqProofs
  refine CallK.via hA (by simp) ?_
  rintro _ ⟨tag, rfl⟩
  simp -implicitDefEqProofs
  intro _
  refine loopK.post (RcI ls rs) (fun t => rs.length - natOf (t 10)) (RcM rs) ?_ ?_ ?_
  · exact ⟨0, by simp, ⟨tag, by simp⟩, by simp, by simp, by omega, by simp⟩
  · rintro t hh ⟨k, g0, ⟨tag, g8⟩, g9, g10, hk, hc⟩
    by_cases hlt : k < rs.length
    · have hlt' : (k : Int) < (rs.length : Int) := by omega
      have hw : IntKind.i64.wrap ((k : Int) + 1) = ((k + 1 : Nat) : Int) := by rw [w64 (by omega) (by omega)] <;> omega
      obtain ⟨a, hx⟩ : ∃ a, rs[k]? = some a := ⟨rs[k], by simp [hlt]⟩
      have ham : a ∈ rs := List.mem_of_getElem? hx
      have htk : rs.take (k + 1) = rs.take k ++ [a] := by rw [List.take_add_one, hx]; rfl
      have hm10 : natOf (t 10) = k := by rw [g10]; simp
      rw [hm10]
      simp -implicitDefEqProofs [g8, g9, g10, hlt', hx, eRc]
      refine allocK.intro (fun b1 hb1 => ?_)
      simp -implicitDefEqProofs [g0]
      refine CallK.via hA (by simp) ?_
      rintro _ ⟨tag2, rfl⟩
      simp -implicitDefEqProofs
      intro _
      refine loopK.intro (RcJ ls rs k a b1) (fun t => rs.length - natOf (t 17)) ?_ ?_
      · exact ⟨0, by simp [g0], ⟨tag, by simp [g8]⟩, by simp [g9], by simp [g10], by simp, ⟨tag2, by simp⟩, by simp, by simp, by omega, by simp [eRc], by simp⟩
      · clear g0 g8 g9 g10 hb1 hm10
        rintro t hh ⟨j, g0, ⟨tag, g8⟩, g9, g10, g4, ⟨tag2, g15⟩, g16, g17, hj, c1, hcj⟩
        by_cases hjt : j < rs.length
        · have hjt' : (j : Int) < (rs.length : Int) := by omega
          have hwj : IntKind.i64.wrap ((j : Int) + 1) = ((j + 1 : Nat) : Int) := by rw [w64 (by omega) (by omega)] <;> omega
          obtain ⟨b, hy⟩ : ∃ b, rs[j]? = some b := ⟨rs[j], by simp [hjt]⟩
          have hbm : b ∈ rs := List.mem_of_getElem? hy
          have htj : rs.take (j + 1) = rs.take j ++ [b] := by rw [List.take_add_one, hy]; rfl
          have hnext : clashP a b = false → ∀ x ∈ rs.take (j + 1), clashP a x = false := fun h x hx => by
            rw [htj] at hx
            rcases List.mem_append.1 hx with h1 | h1
            · exact hcj x h1
            · simp at h1; rw [h1]; exact h
          have hhit : clashP a b = true → clashR rs = true := fun h => List.any_eq_true.2 ⟨a, ham, List.any_eq_true.2 ⟨b, hbm, h⟩⟩
          have c1' := c1
          rw [eRc] at c1'
          simp -implicitDefEqProofs [g15, g16, g17, hjt', hy, eRc]
          refine allocK.intro (fun b2 hb2 => ?_)
          have n12 : ¬ b1 = b2 := by rintro rfl; rw [c1] at hb2; simp at hb2
          have n21 : ¬ b2 = b1 := fun h => n12 h.symm
          by_cases q1 : a.kind = 2
          · by_cases q2 : b.kind = 2
            · by_cases q3 : a.view = b.view
              · by_cases q4 : a.cell.node = b.cell.node
                · by_cases q5 : a.cell.change = b.cell.change
                  · have q6 : clashP a b = false := by simp [clashP, q5]
                    simp -implicitDefEqProofs [g4, c1', n12, n21, g17, hwj, q1, q2, q3, q4, q5]
                    exact ⟨⟨j + 1, by simp [g0], ⟨tag, by simp [g8]⟩, by simp [g9], by simp [g10], by simp [g4], ⟨tag2, by simp [g15]⟩, by simp [g16], by simp, by omega, by simp [n12, n21, c1], hnext q6⟩, by omega⟩
                  · have q6 : clashP a b = true := by simp [clashP, plR, q1, q2, q3, q4, q5]
                    have q7 := hhit q6
                    have q8 := ne_two (fun h => q5 (view_eq.2 h))
                    have q9 : (a.cell.change.add == b.cell.change.add && a.cell.change.del == b.cell.change.del) = false := by rw [veq2]; simp [q5]
                    simp -implicitDefEqProofs [g4, c1', n12, n21, g17, hwj, q1, q2, q3, q4, q8, q9, q7]
                · have q6 : clashP a b = false := by simp [clashP, plR, q4]
                  simp -implicitDefEqProofs [g4, c1', n12, n21, g17, hwj, q1, q2, q3, q4]
                  exact ⟨⟨j + 1, by simp [g0], ⟨tag, by simp [g8]⟩, by simp [g9], by simp [g10], by simp [g4], ⟨tag2, by simp [g15]⟩, by simp [g16], by simp, by omega, by simp [n12, n21, c1], hnext q6⟩, by omega⟩
              · have q6 : clashP a b = false := by simp [clashP, plR, q3]
                have q9 : (a.view.add == b.view.add && a.view.del == b.view.del) = false := by rw [veq2]; simp [q3]
                simp -implicitDefEqProofs [g4, c1', n12, n21, g17, hwj, q1, q2, q9]
                exact ⟨⟨j + 1, by simp [g0], ⟨tag, by simp [g8]⟩, by simp [g9], by simp [g10], by simp [g4], ⟨tag2, by simp [g15]⟩, by simp [g16], by simp, by omega, by simp [n12, n21, c1], hnext q6⟩, by omega⟩
            · have q6 : clashP a b = false := by simp [clashP, q2]
              simp -implicitDefEqProofs [g4, c1', n12, n21, g17, hwj, q1, q2]
              exact ⟨⟨j + 1, by simp [g0], ⟨tag, by simp [g8]⟩, by simp [g9], by simp [g10], by simp [g4], ⟨tag2, by simp [g15]⟩, by simp [g16], by simp, by omega, by simp [n12, n21, c1], hnext q6⟩, by omega⟩
          · have q6 : clashP a b = false := by simp [clashP, q1]
            simp -implicitDefEqProofs [g4, c1', n12, n21, g17, hwj, q1]
            exact ⟨⟨j + 1, by simp [g0], ⟨tag, by simp [g8]⟩, by simp [g9], by simp [g10], by simp [g4], ⟨tag2, by simp [g15]⟩, by simp [g16], by simp, by omega, by simp [n12, n21, c1], hnext q6⟩, by omega⟩
        · have hjt' : ¬ (j : Int) < (rs.length : Int) := by omega
          rw [List.take_of_length_le (by omega)] at hcj
          simp -implicitDefEqProofs [g16, g17, hjt', g10, hw]
          refine ⟨⟨k + 1, by simp [g0], ⟨tag, by simp [g8]⟩, by simp [g9], by simp, by omega, fun x hx b hb => ?_⟩, by omega⟩
          rw [htk] at hx
          rcases List.mem_append.1 hx with h1 | h1
          · exact hc x h1 b hb
          · simp at h1; rw [h1]; exact hcj b hb
    · have hlt' : ¬ (k : Int) < (rs.length : Int) := by omega
      rw [List.take_of_length_le (by omega)] at hc
      simp -implicitDefEqProofs [g9, g10, hlt']
      show clashR rs = false
      unfold clashR
      rw [List.any_eq_false]
      intro a ha
      rw [Bool.not_eq_true, List.any_eq_false]
      intro b hb
      rw [hc a ha b hb]; simp
  rintro t hh hm
  rw [RcM] at hm
  simp -implicitDefEqProofs [hm]

def RtI (ls : List (List PRec)) (rs : List PRec) (t : Nat → AV) (h : Nat → Option (List AV)) : Prop := ∃ k : Nat, t 0 = .sl .no (eRss ls) ∧ (∃ tag, t 8 = .sl tag (eRs rs)) ∧ t 9 = eI rs.length ∧ t 10 = eI k ∧ k ≤ rs.length ∧ ∀ a ∈ rs.take k, ∀ b ∈ rs, tagsP a b = false
def RtM (rs : List PRec) (t : Nat → AV) (h : Nat → Option (List AV)) : Prop := tagsR rs = false
def RtJ (ls : List (List PRec)) (rs : List PRec) (k : Nat) (a : PRec) (b1 : Nat) (t : Nat → AV) (h : Nat → Option (List AV)) : Prop := ∃ j : Nat, t 0 = .sl .no (eRss ls) ∧ (∃ tag, t 8 = .sl tag (eRs rs)) ∧ t 9 = eI rs.length ∧ t 10 = eI k ∧ t 4 = .ptr b1 0 ∧ (∃ tag, t 15 = .sl tag (eRs rs)) ∧ t 16 = eI rs.length ∧ t 17 = eI j ∧ j ≤ rs.length ∧ h b1 = some (eRc a) ∧ ∀ b ∈ rs.take j, tagsP a b = false
def RtN (ls : List (List PRec)) (rs : List PRec) (k : Nat) (a : PRec) (t : Nat → AV) (h : Nat → Option (List AV)) : Prop := t 0 = .sl .no (eRss ls) ∧ (∃ tag, t 8 = .sl tag (eRs rs)) ∧ t 9 = eI rs.length ∧ t 10 = eI k ∧ ∀ b ∈ rs, tagsP a b = false
theorem tags22r_spec (ls : List (List PRec)) (hl : ls.flatten.length ≤ 100000000) (hf : ∀ r ∈ ls.flatten, fitR r) : ASpec Tryz.prog 53 [.sl .no (eRss ls)] (· = .v (.bool (tagsR ls.flatten))) := by
  refine ASpec.of_awp Tryz.func53 (by kernel_rfl) rfl (by rw [Tryz.results53]) Tryz.ntmps53 ?_
  have hA := all22_spec ls hl
  generalize ls.flatten = rs at *
  simp -implicitDefEqProofs
  refine CallK.via hA (by simp) ?_
  rintro _ ⟨tag, rfl⟩
  simp -implicitDefEqProofs
  intro _
  refine loopK.post (RtI ls rs) (fun t => rs.length - natOf (t 10)) (RtM rs) ?_ ?_ ?_
  · exact ⟨0, by simp, ⟨tag, by simp⟩, by simp, by simp, by omega, by simp⟩
  · rintro t hh ⟨k, g0, ⟨tag, g8⟩, g9, g10, hk, hc⟩
    by_cases hlt : k < rs.length
    · have hlt' : (k : Int) < (rs.length : Int) := by omega
      have hw : IntKind.i64.wrap ((k : Int) + 1) = ((k + 1 : Nat) : Int) := by rw [w64 (by omega) (by omega)] <;> omega
      obtain ⟨a, hx⟩ : ∃ a, rs[k]? = some a := ⟨rs[k], by simp [hlt]⟩
      have ham : a ∈ rs := List.mem_of_getElem? hx
      have htk : rs.take (k + 1) = rs.take k ++ [a] := by rw [List.take_add_one, hx]; rfl
      have hm10 : natOf (t 10) = k := by rw [g10]; simp
      rw [hm10]
      simp -implicitDefEqProofs [g8, g9, g10, hlt', hx, eRc]
      refine allocK.intro (fun b1 hb1 => ?_)
      simp -implicitDefEqProofs [g0]
      refine CallK.via hA (by simp) ?_
      rintro _ ⟨tag2, rfl⟩
      simp -implicitDefEqProofs
      intro _
      refine loopK.intro (RtJ ls rs k a b1) (fun t => rs.length - natOf (t 17)) ?_ ?_
      · exact ⟨0, by simp [g0], ⟨tag, by simp [g8]⟩, by simp [g9], by simp [g10], by simp, ⟨tag2, by simp⟩, by simp, by simp, by omega, by simp [eRc], by simp⟩
      · clear g0 g8 g9 g10 hb1 hm10
        rintro t hh ⟨j, g0, ⟨tag, g8⟩, g9, g10, g4, ⟨tag2, g15⟩, g16, g17, hj, c1, hcj⟩
        by_cases hjt : j < rs.length
        · have hjt' : (j : Int) < (rs.length : Int) := by omega
          have hwj : IntKind.i64.wrap ((j : Int) + 1) = ((j + 1 : Nat) : Int) := by rw [w64 (by omega) (by omega)] <;> omega
          obtain ⟨b, hy⟩ : ∃ b, rs[j]? = some b := ⟨rs[j], by simp [hjt]⟩
          have hbm : b ∈ rs := List.mem_of_getElem? hy
          have htj : rs.take (j + 1) = rs.take j ++ [b] := by rw [List.take_add_one, hy]; rfl
          have hnext : tagsP a b = false → ∀ x ∈ rs.take (j + 1), tagsP a x = false := fun h x hx => by
            rw [htj] at hx
            rcases List.mem_append.1 hx with h1 | h1
            · exact hcj x h1
            · simp at h1; rw [h1]; exact h
          have hhit : tagsP a b = true → tagsR rs = true := fun h => List.any_eq_true.2 ⟨a, ham, List.any_eq_true.2 ⟨b, hbm, h⟩⟩
          have c1' := c1
          rw [eRc] at c1'
          have hal := alike7_spec a.entry b.entry (hf a ham) (hf b hbm)
          simp -implicitDefEqProofs [g15, g16, g17, hjt', hy, eRc]
          refine allocK.intro (fun b2 hb2 => ?_)
          have n12 : ¬ b1 = b2 := by rintro rfl; rw [c1] at hb2; simp at hb2
          have n21 : ¬ b2 = b1 := fun h => n12 h.symm
          by_cases q1 : a.kind = 1
          · by_cases q2 : b.kind = 1
            · by_cases q3 : a.entry.tag = b.entry.tag
              · have q9 : (a.entry.tag.num == b.entry.tag.num && a.entry.tag.node == b.entry.tag.node) = true := by rw [teq2]; simp [q3]
                simp -implicitDefEqProofs [g4, c1', n12, n21, g17, hwj, q1, q2, q9]
                refine CallK.with hal (by simp [eE]) ?_
                cases q5 : sameE a.entry b.entry
                · have q6 : tagsP a b = true := by simp [tagsP, q1, q2, q3, q5]
                  have q7 := hhit q6
                  simp -implicitDefEqProofs [g4, c1', n12, n21, g17, hwj, q7]
                · have q6 : tagsP a b = false := by simp [tagsP, q5]
                  simp -implicitDefEqProofs [g4, c1', n12, n21, g17, hwj]
                  exact ⟨⟨j + 1, by simp [g0], ⟨tag, by simp [g8]⟩, by simp [g9], by simp [g10], by simp [g4], ⟨tag2, by simp [g15]⟩, by simp [g16], by simp, by omega, by simp [n12, n21, c1], hnext q6⟩, by omega⟩
              · have q6 : tagsP a b = false := by simp [tagsP, q3]
                have q9 : (a.entry.tag.num == b.entry.tag.num && a.entry.tag.node == b.entry.tag.node) = false := by rw [teq2]; simp [q3]
                simp -implicitDefEqProofs [g4, c1', n12, n21, g17, hwj, q1, q2, q9]
                exact ⟨⟨j + 1, by simp [g0], ⟨tag, by simp [g8]⟩, by simp [g9], by simp [g10], by simp [g4], ⟨tag2, by simp [g15]⟩, by simp [g16], by simp, by omega, by simp [n12, n21, c1], hnext q6⟩, by omega⟩
            · have q6 : tagsP a b = false := by simp [tagsP, q2]
              simp -implicitDefEqProofs [g4, c1', n12, n21, g17, hwj, q1, q2]
              exact ⟨⟨j + 1, by simp [g0], ⟨tag, by simp [g8]⟩, by simp [g9], by simp [g10], by simp [g4], ⟨tag2, by simp [g15]⟩, by simp [g16], by simp, by omega, by simp [n12, n21, c1], hnext q6⟩, by omega⟩
          · have q6 : tagsP a b = false := by simp [tagsP, q1]
            simp -implicitDefEqProofs [g4, c1', n12, n21, g17, hwj, q1]
            exact ⟨⟨j + 1, by simp [g0], ⟨tag, by simp [g8]⟩, by simp [g9], by simp [g10], by simp [g4], ⟨tag2, by simp [g15]⟩, by simp [g16], by simp, by omega, by simp [n12, n21, c1], hnext q6⟩, by omega⟩
        · have hjt' : ¬ (j : Int) < (rs.length : Int) := by omega
          rw [List.take_of_length_le (by omega)] at hcj
          simp -implicitDefEqProofs [g16, g17, hjt', g10, hw]
          refine ⟨⟨k + 1, by simp [g0], ⟨tag, by simp [g8]⟩, by simp [g9], by simp, by omega, fun x hx b hb => ?_⟩, by omega⟩
          rw [htk] at hx
          rcases List.mem_append.1 hx with h1 | h1
          · exact hc x h1 b hb
          · simp at h1; rw [h1]; exact hcj b hb
    · have hlt' : ¬ (k : Int) < (rs.length : Int) := by omega
      rw [List.take_of_length_le (by omega)] at hc
      simp -implicitDefEqProofs [g9, g10, hlt']
      show tagsR rs = false
      unfold tagsR
      rw [List.any_eq_false]
      intro a ha
      rw [Bool.not_eq_true, List.any_eq_false]
      intro b hb
      rw [hc a ha b hb]; simp
  rintro t hh hm
  rw [RtM] at hm
  simp -implicitDefEqProofs [hm]
end Go.Proofs.YtjbbfiagijjdoaaGreat

/- Plain: entries by their tags, in slices that a map holds. Contracts: has a list an entry unlike the first. No condition. -/
set_option linter.unusedSimpArgs false
set_option linter.unusedVariables false
set_option maxRecDepth 10000
namespace Go.Proofs.YtjbbfiagijjdoaaGreat
open Go Go.Rw Go.Proofs
-- a goal is never to be run by the elaborator
attribute [local irreducible] awp aops aop aopsE aeff

theorem containsf_entries (g : FuncId) (b : Nat) (c : List AV) (p : PEntry → Bool) (l : List PEntry) (hf : ∀ x ∈ l, MSpec Tryz.prog g [.agg (eE x), .ptr b 0] (one b c) (fun r h' => r = .v (.bool (p x)) ∧ h' = one b c)) :
    MSpec Tryz.prog 113 [.sl .no (eEs l), .fn g [.ptr b 0]] (one b c) (fun r h' => r = .v (.bool (l.any p)) ∧ h' = one b c) := by
  refine MSpec.of_awp Tryz.func113 (by kernel_rfl) rfl (by rw [Tryz.results113]) Tryz.ntmps113 ?_
  simp -implicitDefEqProofs
  refine CallK.one (indexf_entries g b c p l hf) rfl (by simp [Weak.refl]) ?_
  have h := idx_any p l
  cases ha : l.any p
  · rw [ha] at h
    have h' : ¬ 0 ≤ idxP p l := fun h2 => by simpa using h.1 h2
    simp -implicitDefEqProofs [h', ha, Weak.refl]
  · rw [ha] at h
    simp -implicitDefEqProofs [h.2 rfl, ha, Weak.refl]
theorem tagsKey_spec (x f : PEntry) (b : Nat) (l : List PEntry) : MSpec Tryz.prog 114 [.agg (eE x), .ptr b 0] (one b [.sl .no (eEs (f :: l))]) (fun r h' => r = .v (.bool (!sameE f x)) ∧ h' = one b [.sl .no (eEs (f :: l))]) := by
  refine MSpec.of_awp Tryz.func114 (by kernel_rfl) rfl (by rw [Tryz.results114]) Tryz.ntmps114 ?_
  simp -implicitDefEqProofs [eE]
  refine allocK.intro (fun b1 hb1 => ?_)
  have n1 : ¬ b1 = b := by rintro rfl; simp at hb1
  have n2 : ¬ b = b1 := fun h => n1 h.symm
  have hs := book_same [f] [x]
  have he : sameEs [f] [x] = sameE f x := by simp [sameEs]
  rw [he] at hs
  simp -implicitDefEqProofs [n1, n2]
  refine regionK.intro 7 follows_mixed (by kernel_rfl) ?_
  simp -implicitDefEqProofs [n1, n2, eEs, eE]
  have hle : (1 : Int) ≤ (l.length : Int) + 1 := by omega
  simp -implicitDefEqProofs [hle]
  refine CallQ.with hs (by simp [eEs, eE]) ?_
  simp -implicitDefEqProofs [n1, n2, Weak.refl, eEs, eE]
/-! ### plain -/
abbrev PSl := Option (Nat × Nat × Nat)
/-- a slice of one's own as Go has it -/
def evS : PSl → Value
  | none => .slice none 0 0
  | some (b, n, c) => .slice (some ⟨b, 0, none⟩) n c
/-- the entries of a tag -/
def grp (rs : List PRec) (tg : PTag) : List PEntry := (rs.filter fun r => decide (r.kind = 1 ∧ r.entry.tag = tg)).map (·.entry)
theorem grp_snoc (rs : List PRec) (r : PRec) (tg : PTag) : grp (rs ++ [r]) tg = if r.kind = 1 ∧ r.entry.tag = tg then grp rs tg ++ [r.entry] else grp rs tg := by
  unfold grp
  rw [List.filter_append, List.map_append]
  by_cases h : r.kind = 1 ∧ r.entry.tag = tg
  · simp [h]
  · rw [if_neg h]
    simp only [List.filter_cons, h, decide_false]
    simp
theorem grp_mem {rs : List PRec} {tg : PTag} {x : PEntry} : x ∈ grp rs tg ↔ ∃ r ∈ rs, r.kind = 1 ∧ r.entry.tag = tg ∧ r.entry = x := by
  unfold grp
  simp only [List.mem_map, List.mem_filter, decide_eq_true_eq]
  constructor
  · rintro ⟨r, ⟨h1, h2, h3⟩, h4⟩; exact ⟨r, h1, h2, h3, h4⟩
  · rintro ⟨r, h1, h2, h3, h4⟩; exact ⟨r, ⟨h1, h2, h3⟩, h4⟩
theorem sameE_two {f a b : PEntry} (h1 : sameE f a = true) (h2 : sameE f b = true) : sameE a b = true := by
  simp only [sameE, Bool.and_eq_true, decide_eq_true_eq] at *
  exact ⟨⟨h1.1.1.symm.trans h2.1.1, h1.1.2.symm.trans h2.1.2⟩, h1.2.symm.trans h2.2⟩
theorem tags_bad {rs : List PRec} {tg : PTag} {f : PEntry} {l : List PEntry} (hg : grp rs tg = f :: l) (hb : (f :: l).any (fun x => !sameE f x) = true) : tagsR rs = true := by
  obtain ⟨x, hx, h2⟩ := List.any_eq_true.1 hb
  rw [← hg] at hx
  obtain ⟨r, h3, h4, h5, h6⟩ := grp_mem.1 hx
  have hf : f ∈ grp rs tg := by rw [hg]; simp
  obtain ⟨q, h7, h8, h9, h10⟩ := grp_mem.1 hf
  refine List.any_eq_true.2 ⟨q, h7, List.any_eq_true.2 ⟨r, h3, ?_⟩⟩
  simp only [tagsP, Bool.and_eq_true, decide_eq_true_eq]
  exact ⟨⟨h8, h4, h9.trans h5.symm⟩, by rw [h10, h6]; exact h2⟩
theorem tags_good {rs : List PRec} (h : ∀ r ∈ rs, r.kind = 1 → ∃ f l, grp rs r.entry.tag = f :: l ∧ (f :: l).any (fun x => !sameE f x) = false) : tagsR rs = false := by
  unfold tagsR
  rw [List.any_eq_false]
  intro a ha
  rw [Bool.not_eq_true, List.any_eq_false]
  intro b hb
  simp only [tagsP, Bool.and_eq_true, decide_eq_true_eq, not_and]
  rintro ⟨h1, h2, h3⟩
  obtain ⟨f, l, hg, hn⟩ := h a ha h1
  rw [List.any_eq_false] at hn
  have ea : a.entry ∈ f :: l := by rw [← hg]; exact grp_mem.2 ⟨a, ha, h1, rfl, rfl⟩
  have eb : b.entry ∈ f :: l := by rw [← hg]; exact grp_mem.2 ⟨b, hb, h2, h3.symm, rfl⟩
  have e1 := hn _ ea
  have e2 := hn _ eb
  simp at e1 e2
  simp [sameE_two e1 e2]
/-- an entry's slice lies in memory of one's own -/
def GoodS (rs : List PRec) (h : Nat → Option (List AV)) (e : PTag × PSl × Nat) : Prop :=
  grp rs e.1 ≠ [] ∧ ∃ (b cc : Nat) (sp : List AV), e.2.1 = some (b, (grp rs e.1).length, cc) ∧ h b = some ((eEs (grp rs e.1)).flatten ++ sp) ∧ (grp rs e.1).length * 4 + sp.length = cc * 4 ∧ cc ≤ Go.maxLen
structure InvT (rs : List PRec) (m : List (PTag × PSl × Nat)) (c : Nat) (h : Nat → Option (List AV)) : Prop where
  stamp : StampM m c
  keys : ∀ (i j : Nat) e e', ¬ i = j → m[i]? = some e → m[j]? = some e' → ¬ e.1 = e'.1
  apart : ∀ (i j : Nat) e e', ¬ i = j → m[i]? = some e → m[j]? = some e' → ¬ e.2.1.map (·.1) = e'.2.1.map (·.1)
  all : ∀ r ∈ rs, r.kind = 1 → ∃ e ∈ m, e.1 = r.entry.tag
  good : ∀ e ∈ m, GoodS rs h e
theorem invT_nil (h : Nat → Option (List AV)) : InvT [] [] 0 h := ⟨⟨List.nodup_nil, by simp⟩, by simp, by simp, by simp, by simp⟩
theorem InvT.skip {rs : List PRec} {m : List (PTag × PSl × Nat)} {c : Nat} {h H : Nat → Option (List AV)} (hi : InvT rs m c h) {r : PRec} (hr : ¬ r.kind = 1) (hH : ∀ b x, h b = some x → H b = some x) : InvT (rs ++ [r]) m c H := by
  have hg : ∀ tg, grp (rs ++ [r]) tg = grp rs tg := fun tg => by rw [grp_snoc, if_neg (fun h => hr h.1)]
  refine ⟨hi.stamp, hi.keys, hi.apart, fun x hx hk => ?_, fun e he => ?_⟩
  · rcases List.mem_append.1 hx with h1 | h1
    · exact hi.all x h1 hk
    · simp at h1; rw [h1] at hk; exact absurd hk hr
  · obtain ⟨h1, b, cc, sp, h2, h3, h4⟩ := hi.good e he
    unfold GoodS
    rw [hg]
    exact ⟨h1, b, cc, sp, h2, hH _ _ h3, h4⟩
theorem modify_get {α : Type} {m : List α} {i j : Nat} {f : α → α} {e : α} (h : (m.modify i f)[j]? = some e) : ∃ e0, m[j]? = some e0 ∧ (i = j ∧ e = f e0 ∨ ¬ i = j ∧ e = e0) := by
  rw [List.getElem?_modify] at h
  cases h0 : m[j]? with
  | none => rw [h0] at h; simp at h
  | some e0 =>
    rw [h0] at h
    simp only [Option.map_eq_map, Option.map_some, Option.some.injEq] at h
    refine ⟨e0, rfl, ?_⟩
    split at h
    · rename_i hij; exact .inl ⟨hij, h.symm⟩
    · rename_i hij; exact .inr ⟨hij, h.symm⟩
theorem modify_map {α β : Type} (g : α → β) (f : α → α) (hg : ∀ e, g (f e) = g e) (m : List α) (i : Nat) : (m.modify i f).map g = m.map g := by
  apply List.ext_getElem?
  intro j
  rw [List.getElem?_map, List.getElem?_map, List.getElem?_modify]
  cases m[j]? with
  | none => rfl
  | some e =>
    simp only [Option.map_eq_map, Option.map_some, Option.some.injEq]
    split
    · exact hg e
    · rfl
theorem modify_mem {α : Type} {m : List α} {i : Nat} {f : α → α} {e0 : α} (h : m[i]? = some e0) : f e0 ∈ m.modify i f := by
  have : (m.modify i f)[i]? = some (f e0) := by rw [List.getElem?_modify, h]; simp
  exact List.mem_of_getElem? this
/-- one more entry of a tag that is there -/
theorem InvT.hit {rs : List PRec} {m : List (PTag × PSl × Nat)} {c : Nat} {h H : Nat → Option (List AV)} (hi : InvT rs m c h) {r : PRec} (hr : r.kind = 1) {i : Nat} {e0 : PTag × PSl × Nat} (hx : m[i]? = some e0) (hk : e0.1 = r.entry.tag) {b n cc : Nat} (hv : e0.2.1 = some (b, n, cc))
    {b' c' : Nat} {sp : List AV} (hb : b' = b ∨ h b' = none) (hH : ∀ k x, h k = some x → ¬ k = b' → ¬ k = b → H k = some x) (hb' : H b' = some ((eEs (grp rs r.entry.tag ++ [r.entry])).flatten ++ sp)) (hl : (n + 1) * 4 + sp.length = c' * 4) (hc : c' ≤ Go.maxLen) :
    InvT (rs ++ [r]) (m.modify i fun e => (e.1, some (b', n + 1, c'), e.2.2)) c H := by
  obtain ⟨g1, b0, c0, sp0, g2, g3, g4⟩ := hi.good e0 (List.mem_of_getElem? hx)
  rw [hv] at g2
  obtain ⟨rfl, rfl, rfl⟩ : b = b0 ∧ n = (grp rs e0.1).length ∧ cc = c0 := by simpa using g2
  rw [hk] at g3 g1 hl hv ⊢
  have other : ∀ (j : Nat) e, m[j]? = some e → ¬ i = j → GoodS (rs ++ [r]) H e ∧ ¬ e.2.1.map (·.1) = some b' := fun j e hj hij => by
    have hk2 : ¬ e0.1 = e.1 := hi.keys i j e0 e hij hx hj
    have hap : ¬ e0.2.1.map (·.1) = e.2.1.map (·.1) := hi.apart i j e0 e hij hx hj
    obtain ⟨q1, b1, c1, sp1, q2, q3, q4⟩ := hi.good e (List.mem_of_getElem? hj)
    have hne : ¬ b1 = b' := by
      rintro rfl
      rcases hb with rfl | hb
      · rw [hv, q2] at hap; simp at hap
      · rw [q3] at hb; cases hb
    have hne2 : ¬ b1 = b := by
      rintro rfl
      rw [hv, q2] at hap; simp at hap
    have hg : grp (rs ++ [r]) e.1 = grp rs e.1 := by rw [grp_snoc, if_neg (fun h => hk2 (hk.trans h.2))]
    refine ⟨?_, ?_⟩
    · unfold GoodS
      rw [hg]
      exact ⟨q1, b1, c1, sp1, q2, hH _ _ q3 hne hne2, q4⟩
    · rw [q2]; simp; exact hne
  have self : ∀ st : Nat, GoodS (rs ++ [r]) H (r.entry.tag, some (b', (grp rs r.entry.tag).length + 1, c'), st) := fun st => by
    have hg : grp (rs ++ [r]) r.entry.tag = grp rs r.entry.tag ++ [r.entry] := by rw [grp_snoc, if_pos ⟨hr, rfl⟩]
    unfold GoodS
    simp only [hg]
    exact ⟨by simp, b', c', sp, by simp, hb', by simp; omega, hc⟩
  refine ⟨⟨?_, fun e he => ?_⟩, fun j1 j2 e e' hj h1 h2 => ?_, fun j1 j2 e e' hj h1 h2 => ?_, fun x hx2 hk2 => ?_, fun e he => ?_⟩
  · rw [modify_map (fun e : PTag × PSl × Nat => e.2.2) (fun e => (e.1, some (b', (grp rs r.entry.tag).length + 1, c'), e.2.2)) (fun e => rfl)]; exact hi.stamp.1
  · have : e.2.2 ∈ (m.modify i fun e => (e.1, some (b', (grp rs r.entry.tag).length + 1, c'), e.2.2)).map (·.2.2) := List.mem_map_of_mem he
    rw [modify_map (fun e : PTag × PSl × Nat => e.2.2) (fun e => (e.1, some (b', (grp rs r.entry.tag).length + 1, c'), e.2.2)) (fun e => rfl)] at this
    obtain ⟨e2, h1, h2⟩ := List.mem_map.1 this
    have := hi.stamp.2 e2 h1
    omega
  · obtain ⟨d1, k1, k2⟩ := modify_get h1
    obtain ⟨d2, k3, k4⟩ := modify_get h2
    have := hi.keys j1 j2 d1 d2 hj k1 k3
    rcases k2 with ⟨_, rfl⟩ | ⟨_, rfl⟩ <;> rcases k4 with ⟨_, rfl⟩ | ⟨_, rfl⟩ <;> exact this
  · obtain ⟨d1, k1, k2⟩ := modify_get h1
    obtain ⟨d2, k3, k4⟩ := modify_get h2
    rcases k2 with ⟨z1, rfl⟩ | ⟨z1, rfl⟩ <;> rcases k4 with ⟨z2, rfl⟩ | ⟨z2, rfl⟩
    · exact absurd (z1.symm.trans z2) hj
    · intro hq; exact (other j2 _ k3 z2).2 hq.symm
    · exact (other j1 _ k1 z1).2
    · exact hi.apart j1 j2 _ _ hj k1 k3
  · rcases List.mem_append.1 hx2 with h1 | h1
    · obtain ⟨e, he, hek⟩ := hi.all x h1 hk2
      obtain ⟨j, hj⟩ := List.getElem?_of_mem he
      by_cases hij : i = j
      · subst hij
        rw [hx] at hj
        obtain rfl := Option.some.inj hj
        exact ⟨_, modify_mem hx, hek⟩
      · refine ⟨e, List.mem_of_getElem? (i := j) ?_, hek⟩
        rw [List.getElem?_modify, hj]; simp [hij]
    · simp at h1
      subst h1
      exact ⟨_, modify_mem hx, hk⟩
  · obtain ⟨j, hj⟩ := List.getElem?_of_mem he
    obtain ⟨d1, k1, k2⟩ := modify_get hj
    rcases k2 with ⟨rfl, rfl⟩ | ⟨z1, rfl⟩
    · rw [hx] at k1
      obtain rfl := Option.some.inj k1
      rw [hk]
      exact self _
    · exact (other j _ k1 z1).1
/-- the first entry of a tag -/
theorem InvT.miss {rs : List PRec} {m : List (PTag × PSl × Nat)} {c : Nat} {h H : Nat → Option (List AV)} (hi : InvT rs m c h) {r : PRec} (hr : r.kind = 1) (hx : ∀ e ∈ m, ¬ e.1 = r.entry.tag)
    {b' c' : Nat} {sp : List AV} (hb : h b' = none) (hH : ∀ k x, h k = some x → ¬ k = b' → H k = some x) (hb' : H b' = some ((eEs [r.entry]).flatten ++ sp)) (hl : 1 * 4 + sp.length = c' * 4) (hc : c' ≤ Go.maxLen) :
    InvT (rs ++ [r]) (m ++ [(r.entry.tag, some (b', 1, c'), c)]) (c + 1) H := by
  have hg0 : grp rs r.entry.tag = [] := by
    cases hq : grp rs r.entry.tag with
    | nil => rfl
    | cons x l =>
      have : x ∈ grp rs r.entry.tag := by rw [hq]; simp
      obtain ⟨q, h1, h2, h3, h4⟩ := grp_mem.1 this
      obtain ⟨e, he, hek⟩ := hi.all q h1 h2
      exact absurd (hek.trans h3) (hx e he)
  have old : ∀ e ∈ m, GoodS (rs ++ [r]) H e ∧ ¬ e.2.1.map (·.1) = some b' := fun e he => by
    obtain ⟨q1, b1, c1, sp1, q2, q3, q4⟩ := hi.good e he
    have hne : ¬ b1 = b' := by rintro rfl; rw [q3] at hb; cases hb
    have hg : grp (rs ++ [r]) e.1 = grp rs e.1 := by rw [grp_snoc, if_neg (fun h => hx e he h.2.symm)]
    refine ⟨?_, ?_⟩
    · unfold GoodS
      rw [hg]
      exact ⟨q1, b1, c1, sp1, q2, hH _ _ q3 hne, q4⟩
    · rw [q2]; simp; exact hne
  have self : GoodS (rs ++ [r]) H (r.entry.tag, some (b', 1, c'), c) := by
    have hg : grp (rs ++ [r]) r.entry.tag = [r.entry] := by rw [grp_snoc, if_pos ⟨hr, rfl⟩, hg0]; rfl
    unfold GoodS
    simp only [hg]
    exact ⟨by simp, b', c', sp, by simp, hb', by simp; omega, hc⟩
  have get : ∀ (j : Nat) e, (m ++ [(r.entry.tag, (some (b', 1, c') : PSl), c)])[j]? = some e → (j < m.length ∧ m[j]? = some e) ∨ (j = m.length ∧ e = (r.entry.tag, some (b', 1, c'), c)) := fun j e hj => by
    rw [List.getElem?_append] at hj
    split at hj
    · rename_i h1; exact .inl ⟨h1, hj⟩
    · rename_i h1
      have : j - m.length = 0 := by
        rcases Nat.eq_zero_or_pos (j - m.length) with h2 | h2
        · exact h2
        · rw [List.getElem?_eq_none (by simp; omega)] at hj; cases hj
      rw [this] at hj
      simp at hj
      exact .inr ⟨by omega, hj.symm⟩
  refine ⟨⟨?_, fun e he => ?_⟩, fun j1 j2 e e' hj h1 h2 => ?_, fun j1 j2 e e' hj h1 h2 => ?_, fun x hx2 hk2 => ?_, fun e he => ?_⟩
  · rw [List.map_append]
    refine List.nodup_append.2 ⟨hi.stamp.1, by simp, fun a ha d hd e1 => ?_⟩
    obtain ⟨e, he, rfl⟩ := List.mem_map.1 ha
    simp at hd
    have := hi.stamp.2 e he
    omega
  · rcases List.mem_append.1 he with h1 | h1
    · have := hi.stamp.2 e h1; omega
    · simp at h1; rw [h1]; simp
  · rcases get _ _ h1 with ⟨z1, z2⟩ | ⟨z1, rfl⟩ <;> rcases get _ _ h2 with ⟨z3, z4⟩ | ⟨z3, rfl⟩
    · exact hi.keys j1 j2 _ _ hj z2 z4
    · exact hx e (List.mem_of_getElem? z2)
    · exact fun h => hx e' (List.mem_of_getElem? z4) h.symm
    · exact absurd (z1.trans z3.symm) hj
  · rcases get _ _ h1 with ⟨z1, z2⟩ | ⟨z1, rfl⟩ <;> rcases get _ _ h2 with ⟨z3, z4⟩ | ⟨z3, rfl⟩
    · exact hi.apart j1 j2 _ _ hj z2 z4
    · exact (old e (List.mem_of_getElem? z2)).2
    · exact fun h => (old e' (List.mem_of_getElem? z4)).2 h.symm
    · exact absurd (z1.trans z3.symm) hj
  · rcases List.mem_append.1 hx2 with h1 | h1
    · obtain ⟨e, he, hek⟩ := hi.all x h1 hk2
      exact ⟨e, by simp [he], hek⟩
    · simp at h1
      subst h1
      exact ⟨_, by simp; exact .inr rfl, rfl⟩
  · rcases List.mem_append.1 he with h1 | h1
    · exact (old e h1).1
    · simp at h1; rw [h1]; exact self
end Go.Proofs.YtjbbfiagijjdoaaGreat

/- Contract: has a tag two values, by a map of lists. No condition. -/
set_option linter.unusedSimpArgs false
set_option linter.unusedVariables false
set_option maxRecDepth 10000
namespace Go.Proofs.YtjbbfiagijjdoaaGreat
open Go Go.Rw Go.Proofs
-- a goal is never to be run by the elaborator
attribute [local irreducible] awp aops aop aopsE aeff

theorem under_mapT : Tryz.prog.underlying 137 = some (.map 43 26) := Tryz.underlying137
theorem zero_ents (w : World) : (zeroValue 26).run Tryz.prog w = .ok (evS none) w := by
  have h : (Tryz.prog.info? 26).bind (·.zero) = some (evS none) := by kernel_rfl
  obtain ⟨i, h1, h2⟩ := Option.bind_eq_some_iff.1 h
  simp [zeroValue, typeInfo, h1, h2]
theorem rep_sm {I : Imm} {b n c : Nat} {u : Value} (h : Rep I (.sm b 0 n c) u) : u = evS (some (b, n, c)) ∧ n ≤ c ∧ c ≤ Go.maxLen := by
  cases h with
  | sm _ _ _ _ h1 h2 h3 => exact ⟨rfl, h1, h3⟩
theorem eEs_one4 (l : List PEntry) : ∀ r ∈ eEs l, r.length = 4 := by simp [eEs, eE]
theorem eEs_dead (l : List PEntry) : (eEs l).flatten.map dead1 = (eEs l).flatten := by
  induction l with
  | nil => rfl
  | cons x l ih =>
    have : (eEs (x :: l)).flatten = eE x ++ (eEs l).flatten := by simp [eEs]
    rw [this, List.map_append, ih]
    simp [eE]
theorem eEs_frz (b : Nat) (rows : List (List AV)) (l : List PEntry) : (eEs l).flatten.map (frz0 b rows) = (eEs l).flatten := by
  induction l with
  | nil => rfl
  | cons x l ih =>
    have : (eEs (x :: l)).flatten = eE x ++ (eEs l).flatten := by simp [eEs]
    rw [this, List.map_append, ih]
    simp [eE, frz0]
theorem chunks_entries (l : List PEntry) (sp : List AV) : chunks ((eEs l).flatten ++ sp) (eEs l) 4 := by
  refine ⟨eEs_one4 l, ?_, ?_, ?_⟩
  · rw [eEs_length, ← eEs_flat, List.take_left, eEs_dead]
  · rw [List.length_append, eEs_flat, eEs_length]; omega
  · intro r hr x hx
    simp [eEs] at hr
    obtain ⟨y, _, rfl⟩ := hr
    simp [eE] at hx
    rcases hx with rfl | rfl | rfl | rfl <;> rfl
/-- how many were seen -/
def seenN (x : AV) : Nat := match x with | .ob _ _ (.mapIter _ _ s _) => s.size | _ => 0
theorem seenN_it (m : Bool) (g : Nat) (o : Option Nat) (a : Nat) (s : Array Nat) (b : Nat) : seenN (.ob m g (.mapIter o a s b)) = s.size := rfl
theorem sub_len2 {α : Type} [DecidableEq α] : ∀ {o l : List α}, o.Nodup → (∀ x ∈ o, x ∈ l) → o.length ≤ l.length
  | [], _, _, _ => by simp
  | x :: o, l, h1, h2 => by
    rw [List.nodup_cons] at h1
    have hx := h2 x (by simp)
    have := sub_len2 (o := o) (l := l.erase x) h1.2 (fun y hy => (List.mem_erase_of_ne (fun h => h1.1 (by rw [← h]; exact hy))).2 (h2 y (by simp [hy])))
    rw [List.length_erase_of_mem hx] at this
    have := List.length_pos_of_mem hx
    simp; omega
theorem grp_len (rs : List PRec) (tg : PTag) : (grp rs tg).length ≤ rs.length := by
  unfold grp
  rw [List.length_map]
  exact List.length_filter_le _ _
theorem stamp_add {m : List (PTag × PSl × Nat)} {c : Nat} (h : StampM m c) (k : PTag) (v : PSl) : StampM (m ++ [(k, v, c)]) (c + 1) := by
  refine ⟨?_, fun e he => ?_⟩
  · rw [List.map_append]
    refine List.nodup_append.2 ⟨h.1, by simp, fun a ha d hd e1 => ?_⟩
    obtain ⟨e, he, rfl⟩ := List.mem_map.1 ha
    simp at hd
    have := h.2 e he
    omega
  · rcases List.mem_append.1 he with h1 | h1
    · have := h.2 e h1; omega
    · simp at h1; rw [h1]; simp
attribute [local simp] obW
def AtI (rs : List PRec) (g : Nat) (t : Nat → AV) (h : Nat → Option (List AV)) : Prop := ∃ (k c : Nat) (m : List (PTag × PSl × Nat)), t 3 = .ob true g (mObj eTg evS m c) ∧ (∃ tag, t 10 = .sl tag (eRs rs)) ∧ t 11 = eI rs.length ∧ t 12 = eI k ∧ k ≤ rs.length ∧ InvT (rs.take k) m c h
def AtM (rs : List PRec) (g : Nat) (t : Nat → AV) (h : Nat → Option (List AV)) : Prop := ∃ (c : Nat) (m : List (PTag × PSl × Nat)), t 3 = .ob true g (mObj eTg evS m c) ∧ InvT rs m c h
def GoodG (rs : List PRec) (e : PTag × PSl × Nat) : Prop := ∃ f l, grp rs e.1 = f :: l ∧ (f :: l).any (fun x => !sameE f x) = false
def GrI (rs : List PRec) (g it c : Nat) (m : List (PTag × PSl × Nat)) (t : Nat → AV) (h : Nat → Option (List AV)) : Prop := ∃ seen : Array Nat, t 3 = .ob true g (mObj eTg evS m c) ∧ t 32 = .ob false it (.mapIter (some g) c seen c) ∧ seen.toList.Nodup ∧ (∀ x ∈ seen.toList, x ∈ m.map (·.2.2)) ∧ (∀ e ∈ m, ¬ e.2.2 ∈ seen → GoodS rs h e) ∧ ∀ e ∈ m, e.2.2 ∈ seen → GoodG rs e
def GrM (rs : List PRec) (t : Nat → AV) (h : Nat → Option (List AV)) : Prop := tagsR rs = false
theorem tags22_spec (ls : List (List PRec)) (hl : ls.flatten.length ≤ 100000000) : ASpec Tryz.prog 52 [.sl .no (eRss ls)] (· = .v (.bool (tagsR ls.flatten))) := by
  refine ASpec.of_awp Tryz.func52 (by kernel_rfl) rfl (by rw [Tryz.results52]) Tryz.ntmps52 ?_
  simp -implicitDefEqProofs
  refine makeMapR eTg evS (fun g => ?_)
  simp -implicitDefEqProofs
  by_cases h0 : ls.flatten = []
  · refine CallK.with (concat_recs_nil ls h0) (by simp) ?_
    simp -implicitDefEqProofs
    refine loopK.post (fun t h => t 11 = eI 0 ∧ t 12 = eI 0 ∧ t 3 = .ob true g (mObj eTg evS [] 0)) (fun _ => 0) (fun t h => t 3 = .ob true g (mObj eTg evS [] 0)) ?_ ?_ ?_
    · simp
    · rintro t hh ⟨g11, g12, g3⟩
      simp -implicitDefEqProofs [g11, g12]
      exact g3
    rintro t hh g3
    simp -implicitDefEqProofs [g3]
    refine rangeR (ek := eTg) (ev := evS) under_mapT (j := 3) (g := g) (m := []) (clock := 0) (by simp [ASt.ev]) (by simp [g3]) (fun it => ?_)
    simp -implicitDefEqProofs
    refine loopK.post (fun t h => t 3 = .ob true g (mObj eTg evS [] 0) ∧ t 32 = .ob false it (.mapIter (some g) 0 #[] 0)) (fun _ => 0) (fun _ _ => True) ?_ ?_ ?_
    · simp [g3]
    · rintro t hh ⟨g3, g32⟩
      simp -implicitDefEqProofs
      refine nextR (ek := eTg) (ev := evS) (i := 32) (j := 3) (it := it) (g := g) (since := 0) (c0 := 0) (clock := 0) (seen := #[]) (m := []) rfl (by simp [g32]) (by simp [g3]) (by simp) (Nat.le_refl _) (fun _ => ?_) (fun e he => by simp at he)
      simp -implicitDefEqProofs
    rintro t hh -
    simp -implicitDefEqProofs [h0, tagsR]
  have hpos : 0 < ls.flatten.length := List.length_pos_iff.2 h0
  refine CallK.via (concat_recs_pos ls hpos hl) (by simp) ?_
  rintro _ ⟨tag, rfl⟩
  generalize ls.flatten = rs at *
  simp -implicitDefEqProofs
  intro _
  refine loopK.post (AtI rs g) (fun t => rs.length - natOf (t 12)) (AtM rs g) ?_ ?_ ?_
  · exact ⟨0, 0, [], by simp, ⟨tag, by simp⟩, by simp, by simp, by omega, invT_nil _⟩
  · rintro t hh ⟨k, c, m, g3, ⟨tag, g10⟩, g11, g12, hk, hi⟩
    by_cases hlt : k < rs.length
    · have hlt' : (k : Int) < (rs.length : Int) := by omega
      have hw : IntKind.i64.wrap ((k : Int) + 1) = ((k + 1 : Nat) : Int) := by rw [w64 (by omega) (by omega)] <;> omega
      obtain ⟨r, hx⟩ : ∃ r, rs[k]? = some r := ⟨rs[k], by simp [hlt]⟩
      have htk : rs.take (k + 1) = rs.take k ++ [r] := by rw [List.take_add_one, hx]; rfl
      have hm12 : natOf (t 12) = k := by rw [g12]; simp
      rw [hm12]
      simp -implicitDefEqProofs [g10, g11, g12, hlt', hx, eRc]
      refine allocK.intro (fun b1 hb1 => ?_)
      have old : ∀ b x, hh b = some x → ¬ b = b1 := fun b x hb h => by rw [h, hb1] at hb; cases hb
      by_cases hk1 : r.kind = 1
      · simp -implicitDefEqProofs [hk1, g3]
        cases hf : findM r.entry.tag m 0 with
        | none =>
          have hno := findM_none hf
          refine mapEntryR (ev := evS) keyT_tag under_mapT (g := g) (j := 3) (m := m) (clock := c) r.entry.tag none (by simp [ASt.ev]) (by simp [g3]) (fun I u h => rep_vals (l := [.int .i64 r.entry.tag.num, .int .i64 r.entry.tag.node]) (by simpa [ASt.ev] using h)) zero_ents .mn (fun I => by simp only [entM, hf]; exact .mn none) (by simp) ?_
          simp -implicitDefEqProofs [entM, addM, hf]
          refine growMnK.intro (fun h => absurd h (by simp)) (fun _ b' c' spare hb' hc' hsp' => ?_)
          have hb2 : ¬ b' = b1 := by rintro rfl; simp [upd] at hb'
          have hb3 : ¬ b1 = b' := fun h => hb2 h.symm
          have hb4 : hh b' = none := by simpa [upd, hb2] using hb'
          have hml : (m ++ [(r.entry.tag, (none : PSl), c)]).modify m.length (fun e => (e.1, some (b', 1, c'), e.2.2)) = m ++ [(r.entry.tag, some (b', 1, c'), c)] := Go.WideElems.modify_last _ _ _
          simp -implicitDefEqProofs
          refine entryStoreR (ek := eTg) (ev := evS) (g := g) (j := 3) (m := m ++ [(r.entry.tag, none, c)]) (clock := c + 1) m.length (r.entry.tag, none, c) (some (b', 1, c')) (stamp_add hi.stamp _ _) (by simp) (by simp [ASt.ev]) (by simp) (by simp [ASt.ev]) (fun I u h => (rep_sm (by simpa [ASt.ev] using h)).1) (fun ⟨I, u, hrep⟩ => ?_)
          have hcm := (rep_sm (b := b') (n := 1) (c := c') (by simpa [ASt.ev] using hrep)).2.2
          rw [hml]
          simp -implicitDefEqProofs [g12, hw]
          exact ⟨⟨k + 1, c + 1, m ++ [(r.entry.tag, some (b', 1, c'), c)], by simp, ⟨tag, by simp [g10]⟩, by simp [g11], by simp, by omega, by
            rw [htk]
            exact hi.miss hk1 hno hb4 (fun q x hq hqb => by have := old q x hq; simp [upd, hqb, this, hq]) (by simp [upd, eEs, eE]; rfl) (by simp at hsp'; omega) hcm⟩, by omega⟩
        | some p =>
          obtain ⟨i, v⟩ := p
          obtain ⟨e0, _, hx0, hek, hev⟩ := findM_some hf
          rw [Nat.sub_zero] at hx0
          obtain ⟨q1, b, cc, sp, q2, q3, q4, q5⟩ := hi.good e0 (List.mem_of_getElem? hx0)
          rw [hek] at q1 q2 q3 q4
          have hev2 := q2
          rw [hev] at q2
          subst q2
          have hgl := grp_len (rs.take k) r.entry.tag
          rw [List.length_take] at hgl
          have hcl : ((eEs (grp (rs.take k) r.entry.tag)).flatten ++ sp).length = cc * 4 := by rw [List.length_append, eEs_flat]; exact q4
          have htkA : (((eEs (grp (rs.take k) r.entry.tag)).flatten ++ sp).take ((grp (rs.take k) r.entry.tag).length * 4)).map dead1 = (eEs (grp (rs.take k) r.entry.tag)).flatten := by
            rw [← eEs_flat, List.take_left, eEs_dead]
          have htkB : List.take ((grp (rs.take k) r.entry.tag).length * 4) (((eEs (grp (rs.take k) r.entry.tag)).flatten ++ sp).map dead1) = (eEs (grp (rs.take k) r.entry.tag)).flatten := by rw [← List.map_take]; exact htkA
          have hbb := old b _ q3
          have hbb' : ¬ b1 = b := fun h => hbb h.symm
          have fin := fun (b' c' : Nat) (sp' : List AV) (H : Nat → Option (List AV)) => hi.hit (H := H) (b' := b') (c' := c') (sp := sp') hk1 hx0 hek hev2
          have hG : (eEs (grp (rs.take k) r.entry.tag ++ [r.entry])).flatten = (eEs (grp (rs.take k) r.entry.tag)).flatten ++ eE r.entry := by simp [eEs]
          rw [hG] at fin
          generalize (grp (rs.take k) r.entry.tag).length = n at *
          generalize hA : (eEs (grp (rs.take k) r.entry.tag)).flatten ++ sp = A at *
          generalize (eEs (grp (rs.take k) r.entry.tag)).flatten = F at *
          refine mapEntryR (ev := evS) keyT_tag under_mapT (g := g) (j := 3) (m := m) (clock := c) r.entry.tag none (by simp [ASt.ev]) (by simp [g3]) (fun I u h => rep_vals (l := [.int .i64 r.entry.tag.num, .int .i64 r.entry.tag.node]) (by simpa [ASt.ev] using h)) zero_ents (.sm b 0 n cc) (fun I => by simp only [entM, hf]; exact .sm b 0 n cc (by omega) (by simp only [Go.Rw.maxLen]; omega) q5) (by simp) ?_
          simp -implicitDefEqProofs [entM, addM, hf, hx0, hbb, hbb', q3, hcl]
          refine ⟨by omega, growSmK.intro fun b' c' spare hb' hc' hsp' => ?_⟩
          have hb2 : ¬ b' = b1 := by
            rintro rfl
            rcases hb' with h | h
            · exact hbb h.symm
            · simp [upd] at h
          have hb3 : ¬ b1 = b' := fun h => hb2 h.symm
          have hb4 : b' = b ∨ hh b' = none := by
            rcases hb' with h | h
            · exact .inl h
            · exact .inr (by simpa [upd, hb2] using h)
          simp -implicitDefEqProofs
          refine entryStoreR (ek := eTg) (ev := evS) (g := g) (j := 3) (m := m) (clock := c) i e0 (some (b', n + 1, c')) hi.stamp hx0 (by simp [ASt.ev]) (by simp) (by simp [ASt.ev]) (fun I u h => (rep_sm (by simpa [ASt.ev] using h)).1) (fun ⟨I, u, hrep⟩ => ?_)
          have hcm := (rep_sm (b := b') (n := n + 1) (c := c') (by simpa [ASt.ev] using hrep)).2.2
          simp -implicitDefEqProofs [g12, hw]
          exact ⟨⟨k + 1, c, m.modify i (fun e => (e.1, some (b', n + 1, c'), e.2.2)), by simp, ⟨tag, by simp [g10]⟩, by simp [g11], by simp, by omega, by
            rw [htk]
            exact fin b' c' spare _ hb4 (fun q x hq hqb hqb2 => by have := old q x hq; simp [upd, hqb, hqb2, this, hq]) (by simp [upd, htkB, eE]) (by simp at hsp'; omega) hcm⟩, by omega⟩
      · simp -implicitDefEqProofs [hk1, g12, hw]
        exact ⟨⟨k + 1, c, m, by simp [g3], ⟨tag, by simp [g10]⟩, by simp [g11], by simp, by omega, by rw [htk]; exact hi.skip hk1 (fun b x hb => by have := old b x hb; simp [upd, this, hb])⟩, by omega⟩
    · have hlt' : ¬ (k : Int) < (rs.length : Int) := by omega
      rw [List.take_of_length_le (by omega)] at hi
      simp -implicitDefEqProofs [g11, g12, hlt']
      exact ⟨c, m, by simp [g3], hi⟩
  rintro t hh ⟨c, m, g3, hi⟩
  simp -implicitDefEqProofs [g3]
  refine rangeR (ek := eTg) (ev := evS) under_mapT (j := 3) (g := g) (m := m) (clock := c) (by simp [ASt.ev]) (by simp [g3]) (fun it => ?_)
  simp -implicitDefEqProofs
  refine loopK.post (GrI rs g it c m) (fun t => m.length - seenN (t 32)) (GrM rs) ?_ ?_ ?_
  · exact ⟨#[], by simp [g3], by simp, by simp, by simp, fun e he _ => hi.good e he, by simp⟩
  · clear g3
    rintro t hh2 ⟨seen, g3, g32, hnd, hsub, hgs, hgg⟩
    have hm32 : seenN (t 32) = seen.size := by rw [g32]; rfl
    rw [hm32]
    simp -implicitDefEqProofs
    refine nextR (ek := eTg) (ev := evS) (i := 32) (j := 3) (it := it) (g := g) (since := c) (c0 := c) (clock := c) (seen := seen) (m := m) rfl (by simp [g32]) (by simp [g3]) hi.stamp.2 (Nat.le_refl _) (fun hall => ?_) (fun e he hns => ?_)
    · simp -implicitDefEqProofs
      exact tags_good fun r hr hk => by
        obtain ⟨e, he, hek⟩ := hi.all r hr hk
        obtain ⟨f, l, h1, h2⟩ := hgg e he (hall e he)
        rw [hek] at h1
        exact ⟨f, l, h1, h2⟩
    · obtain ⟨q1, b, cc, sp, q2, q3, q4, q5⟩ := hgs e he hns
      have hgl := grp_len rs e.1
      obtain ⟨f, l, hfl⟩ : ∃ f l, grp rs e.1 = f :: l := by
        cases hq : grp rs e.1 with
        | nil => exact absurd hq q1
        | cons f l => exact ⟨f, l, rfl⟩
      rw [hfl] at q2 q3 q4 hgl
      have hll : (f :: l).length = l.length + 1 := rfl
      rw [hll] at q2 q4 hgl
      have htake : (eEs (f :: l)).take (l.length + 1) = eEs (f :: l) := List.take_of_length_le (by simp)
      have hrl : (eEs (f :: l)).length = l.length + 1 := by simp
      obtain ⟨i0, hi0⟩ := List.getElem?_of_mem he
      have oth : ∀ e' ∈ m, ¬ e'.2.2 ∈ seen.push e.2.2 → ∃ b2 c2 sp2, e'.2.1 = some (b2, (grp rs e'.1).length, c2) ∧ ¬ b2 = b ∧ hh2 b2 = some ((eEs (grp rs e'.1)).flatten ++ sp2) ∧ (grp rs e'.1).length * 4 + sp2.length = c2 * 4 ∧ c2 ≤ Go.maxLen ∧ grp rs e'.1 ≠ [] := fun e' he' hne' => by
        rw [Array.mem_push, not_or] at hne'
        obtain ⟨z1, b2, c2, sp2, z2, z3, z4, z5⟩ := hgs e' he' hne'.1
        obtain ⟨j0, hj0⟩ := List.getElem?_of_mem he'
        have hij : ¬ i0 = j0 := by rintro rfl; rw [hi0] at hj0; exact hne'.2 (by rw [Option.some.inj hj0])
        have hap := hi.apart i0 j0 e e' hij hi0 hj0
        rw [q2, z2] at hap
        exact ⟨b2, c2, sp2, z2, fun h => hap (by simp [h]), z3, z4, z5, z1⟩
      simp -implicitDefEqProofs
      refine entryR (ek := eTg) (ev := evS) (i := 32) (j := 3) (it := it) (g := g) (since := c) (clock := c) (seen := seen) (m := m) e (.sm b 0 (l.length + 1) cc) rfl (by simp) (by simp [g3]) he hi.stamp (fun I => by rw [q2]; exact .sm _ _ _ _ (by omega) (by simp only [Go.Rw.maxLen]; omega) q5) ?_
      simp -implicitDefEqProofs
      refine shiftK.freeze0 (eEs (f :: l)) (b := b) (sz := 4) (cells := (eEs (f :: l)).flatten ++ sp) (by simp [q3]) (chunks_entries _ _) ?_
      simp -implicitDefEqProofs [frozenT, frz2, frz1, frz0, hrl, htake]
      refine allocK.intro (fun b7 hb7 => ?_)
      simp -implicitDefEqProofs
      refine CallK.one (containsf_entries 114 b7 [.sl .no (eEs (f :: l))] (fun x => !sameE f x) (f :: l) (fun x _ => tagsKey_spec x f b7 l)) (by simp) (by simp [Weak.refl]) ?_
      cases hany : (f :: l).any (fun x => !sameE f x)
      · simp -implicitDefEqProofs
        have h7 : ∀ b2 x, hh2 b2 = some x → ¬ b2 = b → ¬ b2 = b7 := fun b2 x hx hb hq => by
          rw [hq] at hx hb
          simp [frozenH, hb, hx] at hb7
        refine ⟨⟨seen.push e.2.2, by simp [frozenT, frz2, frz1, frz0, g3], by simp [frozenT, frz2, frz1, frz0], ?_, ?_, ?_, ?_⟩, ?_⟩
        · rw [Array.toList_push, List.nodup_append]
          refine ⟨hnd, by simp, fun a ha d hd h => ?_⟩
          simp at hd
          rw [h, hd] at ha
          exact hns (by simpa using ha)
        · intro x hx
          rw [Array.toList_push, List.mem_append] at hx
          rcases hx with hx | hx
          · exact hsub x hx
          · simp at hx; rw [hx]; exact List.mem_map_of_mem he
        · intro e' he' hne'
          obtain ⟨b2, c2, sp2, z2, zb, z3, z4, z5, z1⟩ := oth e' he' hne'
          refine ⟨z1, b2, c2, sp2.map (frz0 b (eEs (f :: l))), z2, ?_, by simpa using z4, z5⟩
          have := h7 b2 _ z3 zb
          simp [upd, this, frozenH, zb, z3]
          rw [← List.map_flatten]; exact eEs_frz _ _ _
        · intro e' he' hin
          rw [Array.mem_push] at hin
          rcases hin with hin | hin
          · exact hgg e' he' hin
          · obtain ⟨j0, hj0⟩ := List.getElem?_of_mem he'
            have : e' = e := by
              by_cases hij : j0 = i0
              · rw [hij, hi0] at hj0; exact (Option.some.inj hj0).symm
              · exfalso
                have hp := hi.stamp.1
                have h1 : (m.map (·.2.2))[j0]? = some e'.2.2 := by rw [List.getElem?_map, hj0]; rfl
                have h2 : (m.map (·.2.2))[i0]? = some e.2.2 := by rw [List.getElem?_map, hi0]; rfl
                rw [hin] at h1
                have hlt1 := lt_of_get h1
                have := (List.getElem?_inj hlt1 hp).1 (h1.trans h2.symm)
                exact hij this
            rw [this]
            exact ⟨f, l, hfl, hany⟩
        · have hsz : (seen.push e.2.2).toList.length ≤ (m.map (·.2.2)).length := sub_len2 (by
            rw [Array.toList_push, List.nodup_append]
            refine ⟨hnd, by simp, fun a ha d hd h => ?_⟩
            simp at hd
            rw [h, hd] at ha
            exact hns (by simpa using ha)) (fun x hx => by
            rw [Array.toList_push, List.mem_append] at hx
            rcases hx with hx | hx
            · exact hsub x hx
            · simp at hx; rw [hx]; exact List.mem_map_of_mem he)
          rw [List.length_map] at hsz
          simp [frozenT, frz2, frz1, frz0, seenN_it] at hsz ⊢
          omega
      · have hb := tags_bad hfl hany
        simp -implicitDefEqProofs [hb]
  rintro t hh hm
  rw [GrM] at hm
  simp -implicitDefEqProofs [hm]
end Go.Proofs.YtjbbfiagijjdoaaGreat

/- Contracts: all views of records, each once, by their names. No condition. -/
set_option linter.unusedSimpArgs false
set_option linter.unusedVariables false
set_option maxRecDepth 10000
namespace Go.Proofs.YtjbbfiagijjdoaaGreat
open Go Go.Rw Go.Proofs
-- a goal is never to be run by the elaborator
attribute [local irreducible] awp aops aop aopsE aeff

def relR (r : PRec) : Bool := decide (r.kind = 1 ∨ r.kind = 2 ∨ r.kind = 5)
def presL (l : List PRec) (n : Nat) : Bool := l.any fun r => relR r && decide (nameV r.view = (n : Int))
def viewsTo (l : List PRec) (m : Nat) : List PView := ((List.range m).filter (presL l)).map fun (n : Nat) => viewN (n : Int)
def bestF (m : Int) (b : Int) (r : PRec) : Int := if relR r = true ∧ m < nameV r.view ∧ nameV r.view < b then nameV r.view else b
def bestL (l : List PRec) (m b : Int) : Int := l.foldl (bestF m) b
theorem bestL_spec : ∀ (l : List PRec) (m b : Int), (bestL l m b = b ∨ ∃ r ∈ l, relR r = true ∧ nameV r.view = bestL l m b ∧ m < bestL l m b) ∧ bestL l m b ≤ b ∧ ∀ r ∈ l, relR r = true → m < nameV r.view → bestL l m b ≤ nameV r.view
  | [], m, b => ⟨.inl rfl, Int.le_refl _, fun r hr => by simp at hr⟩
  | r :: l, m, b => by
    obtain ⟨h1, h2, h3⟩ := bestL_spec l m (bestF m b r)
    have e : bestL (r :: l) m b = bestL l m (bestF m b r) := rfl
    rw [e]
    generalize bestL l m (bestF m b r) = x at *
    unfold bestF at *
    by_cases h : relR r = true ∧ m < nameV r.view ∧ nameV r.view < b
    · simp only [h, and_self, if_true] at h1 h2
      refine ⟨.inr ?_, by omega, fun r' hr' hrel hm => ?_⟩
      · rcases h1 with h1 | ⟨r', hr', h4, h5, h6⟩
        · exact ⟨r, by simp, h.1, by omega, by omega⟩
        · exact ⟨r', by simp [hr'], h4, h5, h6⟩
      · rcases List.mem_cons.1 hr' with rfl | hr'
        · omega
        · exact h3 r' hr' hrel hm
    · rw [if_neg h] at h1 h2
      refine ⟨?_, h2, fun r' hr' hrel hm => ?_⟩
      · rcases h1 with h1 | ⟨r', hr', h4, h5, h6⟩
        · exact .inl h1
        · exact .inr ⟨r', by simp [hr'], h4, h5, h6⟩
      · rcases List.mem_cons.1 hr' with rfl | hr'
        · have : ¬ nameV r'.view < b := fun h5 => h ⟨hrel, hm, h5⟩
          omega
        · exact h3 r' hr' hrel hm
theorem bestL_step {l : List PRec} {k : Nat} {r : PRec} {m : Int} (h : l[k]? = some r) : bestL (l.take (k + 1)) m 5000 = bestF m (bestL (l.take k) m 5000) r := by
  unfold bestL
  rw [List.take_add_one, h, List.foldl_append]; rfl
theorem viewsTo_succ (l : List PRec) (m : Nat) : viewsTo l (m + 1) = viewsTo l m ++ (if presL l m = true then [viewN (m : Int)] else []) := by
  unfold viewsTo
  rw [List.range_succ, List.filter_append, List.map_append]
  cases h : presL l m <;> simp [h]
theorem viewsTo_skip {l : List PRec} {m k : Nat} (hk : m ≤ k) (h : ∀ n, m ≤ n → n < k → presL l n = false) : viewsTo l k = viewsTo l m := by
  induction k with
  | zero => obtain rfl : m = 0 := by omega
            rfl
  | succ k ih =>
    by_cases hm : m = k + 1
    · rw [hm]
    · rw [viewsTo_succ, h k (by omega) (by omega), ih (by omega) (fun n h1 h2 => h n h1 (by omega))]
      simp
theorem presL_iff {l : List PRec} {n : Nat} : presL l n = true ↔ ∃ r ∈ l, relR r = true ∧ nameV r.view = (n : Int) := by
  unfold presL
  rw [List.any_eq_true]
  simp only [Bool.and_eq_true, decide_eq_true_eq]
/-- the least name that comes next -/
theorem best_next {l : List PRec} (hv : ∀ r ∈ l, rightV r.view = true) {m : Nat} (hm : m ≤ 4096) : (bestL l ((m : Int) - 1) 5000 = 5000 ∧ viewsTo l 4096 = viewsTo l m) ∨
    (∃ b : Nat, m ≤ b ∧ b < 4096 ∧ bestL l ((m : Int) - 1) 5000 = (b : Int) ∧ viewsTo l (b + 1) = viewsTo l m ++ [viewN (b : Int)]) := by
  obtain ⟨h1, h2, h3⟩ := bestL_spec l ((m : Int) - 1) 5000
  generalize bestL l ((m : Int) - 1) 5000 = x at *
  rcases h1 with h1 | ⟨r, hr, h4, h5, h6⟩
  · refine .inl ⟨h1, viewsTo_skip hm fun n hn1 hn2 => ?_⟩
    rw [Bool.eq_false_iff]
    intro hp
    obtain ⟨r, hr, h4, h5⟩ := presL_iff.1 hp
    have := h3 r hr h4 (by omega)
    omega
  · have hn := nameV_lt (hv r hr)
    obtain ⟨b, rfl⟩ : ∃ b : Nat, x = (b : Int) := ⟨x.toNat, by omega⟩
    refine .inr ⟨b, by omega, by omega, rfl, ?_⟩
    rw [viewsTo_succ, presL_iff.2 ⟨r, hr, h4, h5⟩, if_pos rfl, viewsTo_skip (m := m) (by omega) fun n hn1 hn2 => ?_]
    rw [Bool.eq_false_iff]
    intro hp
    obtain ⟨r', hr', h7, h8⟩ := presL_iff.1 hp
    have := h3 r' hr' h7 (by omega)
    omega
theorem viewsTo_len (l : List PRec) (m : Nat) : (viewsTo l m).length ≤ m := by
  unfold viewsTo
  rw [List.length_map]
  have := List.length_filter_le (presL l) (List.range m)
  rw [List.length_range] at this
  exact this
def lastN (x : AV) : Nat := match x with | .v (.int _ n) => (n + 1).toNat | _ => 0
@[simp] theorem lastN_int (k : IntKind) (n : Int) : lastN (.v (.int k n)) = (n + 1).toNat := rfl
def VwI (l : List PRec) (t : Nat → AV) (h : Nat → Option (List AV)) : Prop := ∃ (m : Nat) (tag : Tag), t 0 = .sl .no (eRs l) ∧ t 3 = .sl tag (eVs (viewsTo l m)) ∧ appOK tag 24 2 ∧ t 4 = eI ((m : Int) - 1) ∧ m ≤ 4096
def VbI (l : List PRec) (m : Nat) (tag : Tag) (t : Nat → AV) (h : Nat → Option (List AV)) : Prop := ∃ k : Nat, t 0 = .sl .no (eRs l) ∧ t 3 = .sl tag (eVs (viewsTo l m)) ∧ t 4 = eI ((m : Int) - 1) ∧ t 5 = eI (bestL (l.take k) ((m : Int) - 1) 5000) ∧ t 12 = .sl .no (eRs l) ∧ t 13 = eI l.length ∧ t 14 = eI k ∧ k ≤ l.length
def VbM (l : List PRec) (m : Nat) (tag : Tag) (t : Nat → AV) (h : Nat → Option (List AV)) : Prop := t 0 = .sl .no (eRs l) ∧ t 3 = .sl tag (eVs (viewsTo l m)) ∧ t 4 = eI ((m : Int) - 1) ∧ t 5 = eI (bestL l ((m : Int) - 1) 5000)
theorem views12_spec (l : List PRec) (hv : ∀ r ∈ l, rightV r.view = true) (hl : l.length ≤ 1000000000) : ASpec Tryz.prog 77 [.sl .no (eRs l)] (fun r => ∃ tag, r = .sl tag (eVs (viewsTo l 4096))) := by
  refine ASpec.of_awp Tryz.func77 (by kernel_rfl) rfl (by rw [Tryz.results77]) Tryz.ntmps77 ?_
  simp -implicitDefEqProofs
  refine bsK.std ?_
  simp -implicitDefEqProofs
  refine loopK.intro (VwI l) (fun t => 4096 - lastN (t 4)) ?_ ?_
  · exact ⟨0, _, by simp, by simp [viewsTo, eVs]; rfl, by simp, by simp, by omega⟩
  rintro t hh ⟨m, tag, g0, g3, gt, g4, hm⟩
  simp -implicitDefEqProofs [g0]
  intro _
  refine loopK.post (VbI l m tag) (fun t => l.length - natOf (t 14)) (VbM l m tag) ?_ ?_ ?_
  · exact ⟨0, by simp [g0], by simp [g3], by simp [g4], by simp [bestL], by simp, by simp, by simp, by omega⟩
  · rintro t hh ⟨k, q0, q3, q4, q5, q12, q13, q14, hk⟩
    by_cases hlt : k < l.length
    · have hlt' : (k : Int) < (l.length : Int) := by omega
      have hw : IntKind.i64.wrap ((k : Int) + 1) = ((k + 1 : Nat) : Int) := by rw [w64 (by omega) (by omega)]; omega
      obtain ⟨r, hx⟩ : ∃ r, l[k]? = some r := ⟨l[k], by simp [hlt]⟩
      have hst := bestL_step (m := (m : Int) - 1) hx
      have hrv := hv r (List.mem_of_getElem? hx)
      have hnm := name4_spec r.view hrv
      generalize bestL (l.take k) ((m : Int) - 1) 5000 = bb at *
      simp -implicitDefEqProofs [q12, q13, q14, hlt', hx, eRc]
      refine allocK.intro (fun b1 hb1 => ?_)
      simp -implicitDefEqProofs
      refine CallK.with hnm (by simp [eV]) ?_
      simp -implicitDefEqProofs
      unfold bestF relR at hst
      by_cases h1 : r.kind = 1 ∨ r.kind = 2 ∨ r.kind = 5
      · by_cases h2 : (m : Int) - 1 < nameV r.view
        · by_cases h3 : nameV r.view < bb
          · rw [if_pos ⟨by simpa using h1, h2, h3⟩] at hst
            rcases h1 with h1 | h1 | h1
            · simp -implicitDefEqProofs [h1, q4, q5, h2, h3, q14, hw]
              exact ⟨⟨k + 1, by simp [q0], by simp [q3], by simp [q4], by simp [hst], by simp [q12], by simp [q13], by simp, by omega⟩, by omega⟩
            · simp -implicitDefEqProofs [h1, q4, q5, h2, h3, q14, hw]
              exact ⟨⟨k + 1, by simp [q0], by simp [q3], by simp [q4], by simp [hst], by simp [q12], by simp [q13], by simp, by omega⟩, by omega⟩
            · simp -implicitDefEqProofs [h1, q4, q5, h2, h3, q14, hw]
              exact ⟨⟨k + 1, by simp [q0], by simp [q3], by simp [q4], by simp [hst], by simp [q12], by simp [q13], by simp, by omega⟩, by omega⟩
          · rw [if_neg (fun h => h3 h.2.2)] at hst
            rcases h1 with h1 | h1 | h1
            · simp -implicitDefEqProofs [h1, q4, q5, h2, h3, q14, hw]
              exact ⟨⟨k + 1, by simp [q0], by simp [q3], by simp [q4], by simp [hst, q5], by simp [q12], by simp [q13], by simp, by omega⟩, by omega⟩
            · simp -implicitDefEqProofs [h1, q4, q5, h2, h3, q14, hw]
              exact ⟨⟨k + 1, by simp [q0], by simp [q3], by simp [q4], by simp [hst, q5], by simp [q12], by simp [q13], by simp, by omega⟩, by omega⟩
            · simp -implicitDefEqProofs [h1, q4, q5, h2, h3, q14, hw]
              exact ⟨⟨k + 1, by simp [q0], by simp [q3], by simp [q4], by simp [hst, q5], by simp [q12], by simp [q13], by simp, by omega⟩, by omega⟩
        · rw [if_neg (fun h => h2 h.2.1)] at hst
          rcases h1 with h1 | h1 | h1
          · simp -implicitDefEqProofs [h1, q4, q5, h2, q14, hw]
            exact ⟨⟨k + 1, by simp [q0], by simp [q3], by simp [q4], by simp [hst, q5], by simp [q12], by simp [q13], by simp, by omega⟩, by omega⟩
          · simp -implicitDefEqProofs [h1, q4, q5, h2, q14, hw]
            exact ⟨⟨k + 1, by simp [q0], by simp [q3], by simp [q4], by simp [hst, q5], by simp [q12], by simp [q13], by simp, by omega⟩, by omega⟩
          · simp -implicitDefEqProofs [h1, q4, q5, h2, q14, hw]
            exact ⟨⟨k + 1, by simp [q0], by simp [q3], by simp [q4], by simp [hst, q5], by simp [q12], by simp [q13], by simp, by omega⟩, by omega⟩
      · rw [if_neg (fun h => h1 (by simpa using h.1))] at hst
        have h11 : ¬ r.kind = 1 := fun h => h1 (.inl h)
        have h12 : ¬ r.kind = 2 := fun h => h1 (.inr (.inl h))
        have h15 : ¬ r.kind = 5 := fun h => h1 (.inr (.inr h))
        simp -implicitDefEqProofs [h11, h12, h15, q4, q5, q14, hw]
        exact ⟨⟨k + 1, by simp [q0], by simp [q3], by simp [q4], by simp [hst, q5], by simp [q12], by simp [q13], by simp, by omega⟩, by omega⟩
    · have hlt' : ¬ (k : Int) < (l.length : Int) := by omega
      rw [List.take_of_length_le (by omega)] at q5
      simp -implicitDefEqProofs [q13, q14, hlt']
      exact ⟨by simp [q0], by simp [q3], by simp [q4], by simp [q5]⟩
  rintro t hh ⟨q0, q3, q4, q5⟩
  rcases best_next hv hm with ⟨e1, e2⟩ | ⟨b, hb1, hb2, e1, e2⟩
  · rw [e1] at q5
    simp -implicitDefEqProofs [q5, q3, e2]
  · rw [e1] at q5
    have hne : ¬ (b : Int) = 5000 := by omega
    have hnd := named4_spec (b : Int)
    have hvl := viewsTo_len l m
    simp -implicitDefEqProofs [q5, hne]
    rw [namedA, if_pos (by omega)] at hnd
    have hvn : viewN (b : Int) = ⟨(b : Int) / 64, (b : Int) % 64⟩ := by unfold viewN; rw [if_pos (by omega)]
    refine CallK.eq hnd ?_
    simp -implicitDefEqProofs [eV]
    refine allocK.intro (fun b1 hb1 => ?_)
    simp -implicitDefEqProofs [q3, gt]
    refine ⟨by omega, ⟨b + 1, appTag tag 24 2 [eV (viewN (b : Int))], by simp [q0], ?_, by simp [gt], by simp, by omega⟩, ?_⟩
    · simp [e2, eVs, eV, hvn]
    · simp [g4]; omega
end Go.Proofs.YtjbbfiagijjdoaaGreat

/- Plain: the document's state behind records is the same. No condition. -/
set_option linter.unusedSimpArgs false
set_option linter.unusedVariables false
set_option maxRecDepth 10000
namespace Go.Proofs.YtjbbfiagijjdoaaGreat
open Go Go.Rw Go.Proofs

def heldL (v : PView) (l : List PRec) : PView := l.foldl (fun h r => if r.kind = 3 ∧ withinV h r.view = true then r.view else h) v
def lastL (l : List PRec) : Int := l.foldl (fun n r => if r.kind = 4 ∧ n < r.n then r.n else n) 0
def incL (l : List PRec) : Int := l.foldl (fun n r => if r.kind = 6 ∧ n < r.n then r.n else n) 0
def bookV (l : List PRec) (v : PView) : Option PVB := if bookL l v = [] then none else some ⟨v, bookL l v⟩
def cellsV (l : List PRec) (v : PView) : Option PVC := if cellsL l v = [] then none else some ⟨v, cellsL l v⟩
def intentV (l : List PRec) (v : PView) : Option PVI := (intentL l v).map fun c => ⟨v, c⟩
def stateL (v : PView) (l : List PRec) : PState := ⟨(viewsTo l 4096).filterMap (bookV l), (viewsTo l 4096).filterMap (cellsV l), (viewsTo l 4096).filterMap (intentV l), heldL v l, incL l, lastL l⟩
theorem heldL_step {v : PView} {l : List PRec} {k : Nat} {r : PRec} (h : l[k]? = some r) : heldL v (l.take (k + 1)) = if r.kind = 3 ∧ withinV (heldL v (l.take k)) r.view = true then r.view else heldL v (l.take k) := by
  unfold heldL
  rw [List.take_add_one, h, List.foldl_append]; rfl
theorem lastL_step {l : List PRec} {k : Nat} {r : PRec} (h : l[k]? = some r) : lastL (l.take (k + 1)) = if r.kind = 4 ∧ lastL (l.take k) < r.n then r.n else lastL (l.take k) := by
  unfold lastL
  rw [List.take_add_one, h, List.foldl_append]; rfl
theorem incL_step {l : List PRec} {k : Nat} {r : PRec} (h : l[k]? = some r) : incL (l.take (k + 1)) = if r.kind = 6 ∧ incL (l.take k) < r.n then r.n else incL (l.take k) := by
  unfold incL
  rw [List.take_add_one, h, List.foldl_append]; rfl
theorem intentL_step {v : PView} {l : List PRec} {k : Nat} {r : PRec} (h : l[k]? = some r) : intentL (l.take (k + 1)) v = if r.kind = 5 ∧ r.view = v ∧ intentL (l.take k) v = none then some r.cell.change else intentL (l.take k) v := by
  unfold intentL
  rw [List.take_add_one, h, List.find?_append]
  cases hf : (l.take k).find? (fun r => decide (r.kind = 5 ∧ r.view = v)) with
  | some x => simp
  | none =>
    by_cases h1 : r.kind = 5 ∧ r.view = v
    · simp [h1]
    · rw [if_neg (fun h => h1 ⟨h.1, h.2.1⟩)]
      simp [h1]
theorem merge_ne {a : List PEntry} {e : PEntry} (ha : okB a) (he : okB [e]) : ¬ mergeE a [e] = [] := by
  intro h
  have h1 := findE_merge ha he e.key
  rw [h, findE_one, if_pos rfl] at h1
  have h2 := newer_rightT (findE a e.key) e
  rw [← h1] at h2
  have h3 := (he.2 e (by simp)).2.2.2
  rw [lessT_no] at h2
  have h4 : (findE ([] : List PEntry) e.key).tag = ⟨0, 0⟩ := rfl
  rw [h4] at h2
  simp only at h2
  omega
theorem mergeC_ne {a : List PCell} {c : PCell} (ha : okCs a) (hc : okCs [c]) : ¬ mergeC a [c] = [] := by
  intro h
  have h1 := ofC_merge ha hc c.node
  rw [h, ofC_one, if_pos rfl] at h1
  split at h1
  · rename_i h2
    rw [← h1] at h2; simp [ofC] at h2
  · simp [ofC] at h1
/-- what the state tells is what all records tell -/
structure TellsL (v : PView) (l : List PRec) (s : PState) : Prop where
  book : ∀ u, rightV u = true → bookS s u = bookL l u
  cells : ∀ u, rightV u = true → cellsS s u = cellsL l u
  intent : ∀ u, rightV u = true → intentS s u = intentL l u
  held : s.held = heldL v l
  last : s.last = lastL l
  inc : s.inc = incL l
  bne : ∀ x ∈ s.books, ¬ x.book = []
  cne : ∀ x ∈ s.cells, ¬ x.cells = []
theorem tells_new (v : PView) : TellsL v [] (newS v) :=
  ⟨fun u hu => rfl, fun u hu => rfl, fun u hu => rfl, rfl, rfl, rfl, fun x hx => by simp [newS] at hx, fun x hx => by simp [newS] at hx⟩
theorem tells_fold {v : PView} (hv : rightV v = true) {l : List PRec} (hl : ∀ r ∈ l, rightR r = true) (k : Nat) (hk : k ≤ l.length) : TellsL v (l.take k) (foldS v (l.take k)) := by
  induction k with
  | zero => exact tells_new v
  | succ k ih =>
    have hx : l[k]? = some l[k] := List.getElem?_eq_getElem (by omega)
    have T := ih (by omega)
    have O := okT_fold hv hl k (by omega)
    have hr := hl _ (List.mem_of_getElem? hx)
    have hn := okN_apply O.toOkN hr
    generalize l[k] = r at *
    have hx' := hx
    rw [foldS_step hx]
    generalize foldS v (l.take k) = s at *
    have R := rightR_of hr
    refine ⟨fun u hu => ?_, fun u hu => ?_, fun u hu => ?_, ?_, ?_, ?_, fun x hx => ?_, fun x hx => ?_⟩
    · rw [bookS_apply O.toOkN hr hu, bookL_step hx', ← T.book u hu]
      split
      · rename_i h
        rw [mergeD_eq (O.bookOk u).right (R.entry h.1).right]
      · rfl
    · rw [cellsS_apply O.toOkN hr hu, cellsL_step hx', ← T.cells u hu]
    · rw [intentS_apply O.toOkN hr hu, intentL_step hx', ← T.intent u hu]
    · rw [apply_held, heldL_step hx', ← T.held]
    · rw [apply_last, lastL_step hx', ← T.last]
      by_cases h4 : r.kind = 4
      · rw [if_pos h4]
        by_cases h5 : s.last < r.n
        · rw [if_pos ⟨h4, h5⟩]; omega
        · rw [if_neg (fun h => h5 h.2)]; omega
      · rw [if_neg h4, if_neg (fun h => h4 h.1)]
    · rw [apply_inc, incL_step hx', ← T.inc]
      by_cases h4 : r.kind = 6
      · rw [if_pos h4]
        by_cases h5 : s.inc < r.n
        · rw [if_pos ⟨h4, h5⟩]; omega
        · rw [if_neg (fun h => h5 h.2)]; omega
      · rw [if_neg h4, if_neg (fun h => h4 h.1)]
    · rw [look_mem hn.sb, apply_books] at hx
      split at hx
      · rename_i h
        obtain rfl := Option.some.inj hx
        exact merge_ne (O.bookOk r.view) (R.entry h.1)
      · exact T.bne x (look_some hx).1
    · rw [look_mem hn.sc, apply_cells] at hx
      split at hx
      · rename_i h
        obtain rfl := Option.some.inj hx
        show ¬ mergeS _ _ = []
        rw [mergeS_eq (O.cells r.view) (okCs_one (right_cell hr).2)]
        exact mergeC_ne (O.cells r.view) (okCs_one (right_cell hr).2)
      · exact T.cne x (look_some hx).1
section
variable {α : Type} {key : α → Int}
theorem sort_ext' {l m : List α} (hl : sortK key l) (hm : sortK key m) (h : ∀ x, x ∈ l ↔ x ∈ m) : l = m := by
  have hp : l.Perm m := (List.perm_ext_iff_of_nodup (nodupK hl) (nodupK hm)).2 h
  refine List.Perm.eq_of_pairwise (le := fun x y => key x ≤ key y) (fun x y hx hy h1 h2 => ?_) (hl.imp fun h => by omega) (hm.imp fun h => by omega) hp
  exact key_inj hl hx ((hp.mem_iff).2 hy) (by omega)
end
theorem views_sorted (l : List PRec) : (viewsTo l 4096).Pairwise fun a b => nameV a < nameV b := by
  unfold viewsTo
  rw [List.pairwise_map]
  have h1 : ((List.range 4096).filter (presL l)).Pairwise (· < ·) := List.Pairwise.filter _ List.pairwise_lt_range
  refine List.Pairwise.imp_of_mem (fun {a b} ha hb hab => ?_) h1
  have h2 := List.mem_range.1 (List.mem_filter.1 ha).1
  have h3 := List.mem_range.1 (List.mem_filter.1 hb).1
  rw [nameV_view (by omega), nameV_view (by omega)]
  omega
theorem views_mem {l : List PRec} (hl : ∀ r ∈ l, rightV r.view = true) {u : PView} : u ∈ viewsTo l 4096 ↔ ∃ r ∈ l, relR r = true ∧ r.view = u := by
  unfold viewsTo
  rw [List.mem_map]
  constructor
  · rintro ⟨n, hn, rfl⟩
    obtain ⟨h1, h2⟩ := List.mem_filter.1 hn
    obtain ⟨r, hr, h3, h4⟩ := presL_iff.1 h2
    refine ⟨r, hr, h3, ?_⟩
    rw [← h4, viewN_name (hl r hr)]
  · rintro ⟨r, hr, h3, rfl⟩
    have h5 := nameV_lt (hl r hr)
    refine ⟨(nameV r.view).toNat, List.mem_filter.2 ⟨List.mem_range.2 (by omega), presL_iff.2 ⟨r, hr, h3, by omega⟩⟩, ?_⟩
    rw [show (((nameV r.view).toNat : Nat) : Int) = nameV r.view by omega, viewN_name (hl r hr)]
theorem bookL_ne {l : List PRec} {u : PView} (h : ¬ bookL l u = []) : ∃ r ∈ l, relR r = true ∧ r.view = u := by
  refine Classical.byContradiction fun hno => h ?_
  unfold bookL
  have : ∀ (l' : List PRec) (b : List PEntry), (∀ r ∈ l', r ∈ l) → l'.foldl (fun b r => if r.kind = 1 ∧ r.view = u then mergeD b [r.entry] else b) b = b := by
    intro l'
    induction l' with
    | nil => intro b _; rfl
    | cons r l' ih =>
      intro b hsub
      rw [List.foldl_cons, if_neg, ih b (fun x hx => hsub x (by simp [hx]))]
      rintro ⟨h1, h2⟩
      exact hno ⟨r, hsub r (by simp), by simp [relR, h1], h2⟩
  exact this l [] fun r hr => hr
theorem cellsL_ne {l : List PRec} {u : PView} (h : ¬ cellsL l u = []) : ∃ r ∈ l, relR r = true ∧ r.view = u := by
  refine Classical.byContradiction fun hno => h ?_
  unfold cellsL
  have : ∀ (l' : List PRec) (b : List PCell), (∀ r ∈ l', r ∈ l) → l'.foldl (fun b r => if r.kind = 2 ∧ r.view = u then mergeC b [r.cell] else b) b = b := by
    intro l'
    induction l' with
    | nil => intro b _; rfl
    | cons r l' ih =>
      intro b hsub
      rw [List.foldl_cons, if_neg, ih b (fun x hx => hsub x (by simp [hx]))]
      rintro ⟨h1, h2⟩
      exact hno ⟨r, hsub r (by simp), by simp [relR, h1], h2⟩
  exact this l [] fun r hr => hr
theorem intentL_ne {l : List PRec} {u c : PView} (h : intentL l u = some c) : ∃ r ∈ l, relR r = true ∧ r.view = u := by
  unfold intentL at h
  cases hf : l.find? (fun r => decide (r.kind = 5 ∧ r.view = u)) with
  | none => rw [hf] at h; simp at h
  | some r =>
    have h1 := List.find?_some hf
    simp at h1
    exact ⟨r, List.mem_of_find?_eq_some hf, by simp [relR, h1.1], h1.2⟩
theorem state_eq {v : PView} (hv : rightV v = true) {l : List PRec} (hl : ∀ r ∈ l, rightR r = true) : stateL v l = foldS v l := by
  have T := tells_fold hv hl l.length (Nat.le_refl _)
  have O := okT_fold hv hl l.length (Nat.le_refl _)
  rw [List.take_length] at T O
  have hlv : ∀ r ∈ l, rightV r.view = true := fun r hr => (right_cell (hl r hr)).1
  have hvr : ∀ u ∈ viewsTo l 4096, rightV u = true := fun u hu => by
    obtain ⟨r, hr, _, rfl⟩ := (views_mem hlv).1 hu
    exact hlv r hr
  generalize foldS v l = s at *
  obtain ⟨bs, cs, is, h, i, a⟩ := s
  have e1 : (viewsTo l 4096).filterMap (bookV l) = bs := by
    refine sort_ext' (key := keyVB) ?_ O.sb fun x => ?_
    · unfold sortK
      rw [List.pairwise_filterMap]
      refine (views_sorted l).imp fun {u w} h x hx y hy => ?_
      unfold bookV at hx hy
      split at hx <;> split at hy <;> simp at hx hy
      subst hx; subst hy
      exact h
    · rw [List.mem_filterMap]
      constructor
      · rintro ⟨u, hu, hx⟩
        unfold bookV at hx
        split at hx
        · simp at hx
        · rename_i hne
          obtain rfl := Option.some.inj hx
          have h1 := T.book u (hvr u hu)
          rw [bookS_look O.sb] at h1
          cases hk : lookK keyVB bs (nameV u) with
          | none => simp only [hk] at h1; exact absurd h1.symm hne
          | some y =>
            simp only [hk, Option.map_some, Option.getD_some] at h1
            obtain ⟨h2, h3⟩ := look_some hk
            have h4 : y.view = u := name_inj (O.rb y h2) (hvr u hu) h3
            have : y = ⟨u, bookL l u⟩ := by rw [← h1, ← h4]
            rw [← this]; exact h2
      · intro hx
        have h1 := T.book x.view (O.rb x hx)
        rw [bookS_look O.sb, show nameV x.view = keyVB x from rfl, (look_mem O.sb).1 hx] at h1
        simp only [Option.map_some, Option.getD_some] at h1
        have hne : ¬ bookL l x.view = [] := by rw [← h1]; exact T.bne x hx
        refine ⟨x.view, (views_mem hlv).2 (bookL_ne hne), ?_⟩
        unfold bookV
        rw [if_neg hne, ← h1]
  have e2 : (viewsTo l 4096).filterMap (cellsV l) = cs := by
    refine sort_ext' (key := keyVC) ?_ O.sc fun x => ?_
    · unfold sortK
      rw [List.pairwise_filterMap]
      refine (views_sorted l).imp fun {u w} h x hx y hy => ?_
      unfold cellsV at hx hy
      split at hx <;> split at hy <;> simp at hx hy
      subst hx; subst hy
      exact h
    · rw [List.mem_filterMap]
      constructor
      · rintro ⟨u, hu, hx⟩
        unfold cellsV at hx
        split at hx
        · simp at hx
        · rename_i hne
          obtain rfl := Option.some.inj hx
          have h1 := T.cells u (hvr u hu)
          rw [cellsS_look O.sc] at h1
          cases hk : lookK keyVC cs (nameV u) with
          | none => simp only [hk] at h1; exact absurd h1.symm hne
          | some y =>
            simp only [hk, Option.map_some, Option.getD_some] at h1
            obtain ⟨h2, h3⟩ := look_some hk
            have h4 : y.view = u := name_inj (O.rc y h2) (hvr u hu) h3
            have : y = ⟨u, cellsL l u⟩ := by rw [← h1, ← h4]
            rw [← this]; exact h2
      · intro hx
        have h1 := T.cells x.view (O.rc x hx)
        rw [cellsS_look O.sc, show nameV x.view = keyVC x from rfl, (look_mem O.sc).1 hx] at h1
        simp only [Option.map_some, Option.getD_some] at h1
        have hne : ¬ cellsL l x.view = [] := by rw [← h1]; exact T.cne x hx
        refine ⟨x.view, (views_mem hlv).2 (cellsL_ne hne), ?_⟩
        unfold cellsV
        rw [if_neg hne, ← h1]
  have e3 : (viewsTo l 4096).filterMap (intentV l) = is := by
    refine sort_ext' (key := keyVI) ?_ O.si fun x => ?_
    · unfold sortK
      rw [List.pairwise_filterMap]
      refine (views_sorted l).imp fun {u w} h x hx y hy => ?_
      unfold intentV at hx hy
      simp only [Option.map_eq_some_iff] at hx hy
      obtain ⟨_, _, rfl⟩ := hx
      obtain ⟨_, _, rfl⟩ := hy
      exact h
    · rw [List.mem_filterMap]
      constructor
      · rintro ⟨u, hu, hx⟩
        unfold intentV at hx
        rw [Option.map_eq_some_iff] at hx
        obtain ⟨c, hc, rfl⟩ := hx
        have h1 := T.intent u (hvr u hu)
        rw [intentS_look O.si, hc, Option.map_eq_some_iff] at h1
        obtain ⟨y, hk, h1⟩ := h1
        obtain ⟨h2, h3⟩ := look_some hk
        have h4 : y.view = u := name_inj (O.ri y h2) (hvr u hu) h3
        have : y = ⟨u, c⟩ := by rw [← h1, ← h4]
        rw [← this]; exact h2
      · intro hx
        have h1 := T.intent x.view (O.ri x hx)
        rw [intentS_look O.si, show nameV x.view = keyVI x from rfl, (look_mem O.si).1 hx] at h1
        simp only [Option.map_some] at h1
        refine ⟨x.view, (views_mem hlv).2 (intentL_ne h1.symm), ?_⟩
        unfold intentV
        rw [← h1]
        rfl
  have e4 := T.held
  have e5 := T.last
  have e6 := T.inc
  simp only at e4 e5 e6
  unfold stateL
  rw [e1, e2, e3, ← e4, ← e5, ← e6]
end Go.Proofs.YtjbbfiagijjdoaaGreat

/- Contracts: the document's intents and its state behind records. No condition. -/
set_option linter.unusedSimpArgs false
set_option linter.unusedVariables false
set_option maxRecDepth 10000
namespace Go.Proofs.YtjbbfiagijjdoaaGreat
open Go Go.Rw Go.Proofs
-- a goal is never to be run by the elaborator
attribute [local irreducible] awp aops aop aopsE aeff

def intentA' (o : Option PView) : AV := .tup [.agg (eV (o.getD ⟨0, 0⟩)), .v (.bool o.isSome)]
def InI (l : List PRec) (v : PView) (b1 b2 : Nat) (t : Nat → AV) (h : Nat → Option (List AV)) : Prop := ∃ k : Nat, t 3 = .ptr b1 0 ∧ t 4 = .ptr b2 0 ∧ t 8 = .sl .no (eRs l) ∧ t 9 = eI l.length ∧ t 10 = eI k ∧ k ≤ l.length ∧ h b1 = some (eV v) ∧ (∃ z, h b2 = some z ∧ z.length = 2) ∧ intentL (l.take k) v = none
def InM (l : List PRec) (v : PView) (b2 : Nat) (t : Nat → AV) (h : Nat → Option (List AV)) : Prop := t 4 = .ptr b2 0 ∧ (∃ z, h b2 = some z ∧ z.length = 2) ∧ intentL l v = none
theorem intentL_hit {l : List PRec} {k : Nat} {r : PRec} {v : PView} (hx : l[k]? = some r) (hn : intentL (l.take k) v = none) (h1 : r.kind = 5) (h2 : r.view = v) : intentL l v = some r.cell.change := by
  have hs := intentL_step (v := v) hx
  rw [if_pos ⟨h1, h2, hn⟩] at hs
  have e : l = l.take (k + 1) ++ l.drop (k + 1) := (List.take_append_drop _ _).symm
  unfold intentL at hs ⊢
  rw [e, List.find?_append]
  cases hf : (l.take (k + 1)).find? (fun r => decide (r.kind = 5 ∧ r.view = v)) with
  | none => rw [hf] at hs; simp at hs
  | some x => rw [hf] at hs; simpa using hs
theorem intent12_spec (l : List PRec) (v : PView) (hl : l.length ≤ 1000000000) : ASpec Tryz.prog 32 [.sl .no (eRs l), .agg (eV v)] (· = intentA' (intentL l v)) := by
  refine ASpec.of_awp Tryz.func32 (by kernel_rfl) rfl (by rw [Tryz.results32]) Tryz.ntmps32 ?_
  simp -implicitDefEqProofs [eV]
  refine allocK.intro (fun b1 hb1 => ?_)
  simp -implicitDefEqProofs
  refine allocK.intro (fun b2 hb2 => ?_)
  have n12 : ¬ b1 = b2 := by rintro rfl; simp at hb2
  have n21 : ¬ b2 = b1 := fun h => n12 h.symm
  simp -implicitDefEqProofs [n12, n21]
  intro _
  refine loopK.post (InI l v b1 b2) (fun t => l.length - natOf (t 10)) (InM l v b2) ?_ ?_ ?_
  · exact ⟨0, by simp, by simp, by simp, by simp, by simp, by omega, by simp [n12, eV], ⟨_, by simp; rfl, rfl⟩, by simp [intentL]⟩
  · rintro t hh ⟨k, g3, g4, g8, g9, g10, hk, e1, ⟨z, e2, hz⟩, hn⟩
    by_cases hlt : k < l.length
    · have hlt' : (k : Int) < (l.length : Int) := by omega
      have hw : IntKind.i64.wrap ((k : Int) + 1) = ((k + 1 : Nat) : Int) := by rw [w64 (by omega) (by omega)]; omega
      obtain ⟨r, hx⟩ : ∃ r, l[k]? = some r := ⟨l[k], by simp [hlt]⟩
      have hst := intentL_step (v := v) hx
      simp -implicitDefEqProofs [g8, g9, g10, hlt', hx, eRc]
      refine allocK.intro (fun b3 hb3 => ?_)
      have n13 : ¬ b1 = b3 := by rintro rfl; rw [e1] at hb3; simp at hb3
      have n31 : ¬ b3 = b1 := fun h => n13 h.symm
      have n23 : ¬ b2 = b3 := by rintro rfl; rw [e2] at hb3; simp at hb3
      have n32 : ¬ b3 = b2 := fun h => n23 h.symm
      have e1' := e1
      rw [eV] at e1'
      by_cases h1 : r.kind = 5
      · by_cases h2 : r.view.add = v.add
        · by_cases h3 : r.view.del = v.del
          · have hr := intentL_hit hx hn h1 (view_eq.2 ⟨h2, h3⟩)
            rw [hr]
            simp -implicitDefEqProofs [g3, g4, e1', e2, hz, n12, n21, n13, n31, n23, n32, h1, h2, h3, intentA', eV]
          · rw [if_neg (fun h => h3 (view_eq.1 h.2.1).2), hn] at hst
            have h3' : (r.view.del == v.del) = false := by simpa using h3
            simp -implicitDefEqProofs [g3, e1', n13, n31, h1, h2, h3, h3', g10, hw]
            exact ⟨⟨k + 1, by simp [g3], by simp [g4], by simp [g8], by simp [g9], by simp, by omega, by simp [n13, n31, e1], ⟨z, by simp [n23, e2], hz⟩, hst⟩, by omega⟩
        · rw [if_neg (fun h => h2 (view_eq.1 h.2.1).1), hn] at hst
          have h2' : (r.view.add == v.add) = false := by simpa using h2
          simp -implicitDefEqProofs [g3, e1', n13, n31, h1, h2, h2', g10, hw]
          exact ⟨⟨k + 1, by simp [g3], by simp [g4], by simp [g8], by simp [g9], by simp, by omega, by simp [n13, n31, e1], ⟨z, by simp [n23, e2], hz⟩, hst⟩, by omega⟩
      · rw [if_neg (fun h => h1 h.1), hn] at hst
        simp -implicitDefEqProofs [g3, n13, n31, h1, g10, hw]
        exact ⟨⟨k + 1, by simp [g3], by simp [g4], by simp [g8], by simp [g9], by simp, by omega, by simp [n13, n31, e1], ⟨z, by simp [n23, e2], hz⟩, hst⟩, by omega⟩
    · have hlt' : ¬ (k : Int) < (l.length : Int) := by omega
      rw [List.take_of_length_le (by omega)] at hn
      simp -implicitDefEqProofs [g9, g10, hlt']
      exact ⟨by simp [g4], ⟨z, e2, hz⟩, hn⟩
  rintro t hh ⟨g4, ⟨z, e2, hz⟩, hn⟩
  rw [hn]
  simp -implicitDefEqProofs [g4, e2, hz, intentA', eV]
def OfB (h i a : Int × Int) (b5 : Nat) : Prop := True
end Go.Proofs.YtjbbfiagijjdoaaGreat
