/- Parts of the proof: what is used by the law. No condition. -/
import Derived.Test.YtjbbfiagijjdoaaGreatGD
set_option linter.unusedSimpArgs false
set_option linter.unusedVariables false
/- Contracts: the views seen of a state in which nothing was written; what is alive of fold. No condition. -/
set_option linter.unusedSimpArgs false
set_option linter.unusedVariables false
set_option maxRecDepth 10000
namespace Go.Proofs.YtjbbfiagijjdoaaGreat
open Go Go.Rw Go.Proofs
-- a goal is never to be run by the elaborator
attribute [local irreducible] awp aops aop aopsE aeff

theorem ins1_spec (v : PView) (g : FuncId) : ASpec Tryz.prog 177 [.sl .no [eV v], eI 0, eI 1, .fn g []] (fun _ => True) := by
  refine ASpec.of_awp Tryz.func177 (by kernel_rfl) rfl (by rw [Tryz.results177]) Tryz.ntmps177 ?_
  have hw : IntKind.i64.wrap 1 = 1 := by decide
  simp -implicitDefEqProofs [hw]
  refine loopK.intro (fun t h => t 8 = eI 1 ∧ t 2 = eI 1) (fun _ => 0) ?_ ?_
  · simp
  rintro t hh ⟨g8, g2⟩
  simp -implicitDefEqProofs [g8, g2]
theorem pdq1_spec (v : PView) (g : FuncId) (lim : Int) : ASpec Tryz.prog 144 [.sl .no [eV v], eI 0, eI 1, eI lim, .fn g []] (fun _ => True) := by
  refine ASpec.of_awp Tryz.func144 (by kernel_rfl) rfl (by rw [Tryz.results144]) Tryz.ntmps144 ?_
  have hw : IntKind.i64.wrap 1 = 1 := by decide
  simp -implicitDefEqProofs
  refine loopK.intro (fun t h => t 0 = .sl .no [eV v] ∧ t 1 = eI 0 ∧ t 2 = eI 1 ∧ t 4 = .fn g []) (fun _ => 0) ?_ ?_
  · simp
  rintro t hh ⟨g0, g1, g2, g4⟩
  simp -implicitDefEqProofs [g0, g1, g2, g4, hw]
  refine CallK.via (ins1_spec v g) (by simp) ?_
  rintro r -
  simp -implicitDefEqProofs
theorem sort1_spec (v : PView) (g : FuncId) : ASpec Tryz.prog 82 [.sl .no [eV v], .fn g []] (fun _ => True) := by
  refine ASpec.of_awp Tryz.func82 (by kernel_rfl) rfl (by rw [Tryz.results82]) Tryz.ntmps82 ?_
  have hw : IntKind.u64.wrap 1 = 1 := by decide
  simp -implicitDefEqProofs [hw]
  refine CallK.with (bitsLen_spec 1 (by omega)) (by simp) ?_
  simp -implicitDefEqProofs
  refine CallK.via (pdq1_spec v g _) (by simp; rfl) ?_
  rintro r -
  simp -implicitDefEqProofs
theorem compact1_spec (v : PView) : ASpec Tryz.prog 85 [.sl .no [eV v]] (· = .sl .no [eV v]) := by
  refine ASpec.of_awp Tryz.func85 (by kernel_rfl) rfl (by rw [Tryz.results85]) Tryz.ntmps85 ?_
  simp -implicitDefEqProofs
theorem seen1_spec (v : PView) (i a : Int) : ASpec Tryz.prog 34 [.agg (eSt ⟨[], [], [], v, i, a⟩)] (fun r => ∃ tag, r = .sl tag [eV v]) := by
  refine ASpec.of_awp Tryz.func34 (by kernel_rfl) rfl (by rw [Tryz.results34]) Tryz.ntmps34 ?_
  simp -implicitDefEqProofs [eSt]
  refine allocK.intro (fun b1 hb1 => ?_)
  simp -implicitDefEqProofs
  refine loopK.post (fun t h => t 3 = .sl .full [eV v] ∧ t 1 = .ptr b1 0 ∧ t 15 = eI 0 ∧ t 16 = eI 0 ∧ h b1 = some (eSt ⟨[], [], [], v, i, a⟩)) (fun _ => 0) (fun t h => t 3 = .sl .full [eV v] ∧ t 1 = .ptr b1 0 ∧ h b1 = some (eSt ⟨[], [], [], v, i, a⟩)) ?_ ?_ ?_
  · simp [eV, eSt]
  · rintro t hh ⟨g3, g1, g15, g16, c1⟩
    simp -implicitDefEqProofs [g15, g16]
    exact ⟨g3, g1, c1⟩
  rintro t hh ⟨g3, g1, c1⟩
  rw [eSt] at c1
  simp -implicitDefEqProofs [g1, c1]
  refine loopK.post (fun t h => t 3 = .sl .full [eV v] ∧ t 1 = .ptr b1 0 ∧ t 28 = eI 0 ∧ t 29 = eI 0 ∧ h b1 = some (eSt ⟨[], [], [], v, i, a⟩)) (fun _ => 0) (fun t h => t 3 = .sl .full [eV v] ∧ t 1 = .ptr b1 0 ∧ h b1 = some (eSt ⟨[], [], [], v, i, a⟩)) ?_ ?_ ?_
  · simp [g3, g1, c1, eSt]
  · rintro t hh ⟨g3, g1, g15, g16, c1⟩
    simp -implicitDefEqProofs [g15, g16]
    exact ⟨g3, g1, c1⟩
  rintro t hh ⟨g3, g1, c1⟩
  rw [eSt] at c1
  simp -implicitDefEqProofs [g1, c1]
  refine loopK.post (fun t h => t 3 = .sl .full [eV v] ∧ t 41 = eI 0 ∧ t 42 = eI 0) (fun _ => 0) (fun t h => t 3 = .sl .full [eV v]) ?_ ?_ ?_
  · simp [g3]
  · rintro t hh ⟨g3, g15, g16⟩
    simp -implicitDefEqProofs [g15, g16]
    exact g3
  rintro t hh g3
  simp -implicitDefEqProofs [g3]
  refine CallK.via (sort1_spec v 83) (by simp) ?_
  rintro r -
  simp -implicitDefEqProofs [g3]
  refine CallK.with (compact1_spec v) (by simp) ?_
  simp -implicitDefEqProofs
theorem first_spec : ASpec Tryz.prog 63 [] (· = .agg (eV v7)) := by
  refine ASpec.of_awp Tryz.func63 (by kernel_rfl) rfl (by rw [Tryz.results63]) Tryz.ntmps63 ?_
  simp -implicitDefEqProofs
  refine allocK.intro (fun b1 hb1 => ?_)
  simp -implicitDefEqProofs [eV, v7]
def aliveL : List PRec := [⟨4, zV, zC, zE, 5⟩, ⟨4, zV, zC, zE, 3⟩, ⟨3, ⟨15, 0⟩, zC, zE, 0⟩, ⟨3, ⟨7, 1⟩, zC, zE, 0⟩]
theorem alive_right : ∀ r ∈ aliveL, rightR r = true := by decide
theorem alive_fold : foldS v7 aliveL = ⟨[], [], [], ⟨15, 0⟩, 0, 5⟩ := by
  have h : withinV ⟨7, 0⟩ ⟨15, 0⟩ = true := by decide
  have h2 : withinV ⟨15, 0⟩ ⟨7, 1⟩ = false := by decide
  simp [foldS, aliveL, applyS, newS, v7, h, h2]
  try omega
theorem alive12_spec : ASpec Tryz.prog 28 [] (· = .v (.bool true)) := by
  refine ASpec.of_awp Tryz.func28 (by kernel_rfl) rfl (by rw [Tryz.results28]) Tryz.ntmps28 ?_
  simp -implicitDefEqProofs
  refine CallK.eq first_spec ?_
  have hf := fold_spec v7 aliveL rightV_v7 alive_right (by decide)
  rw [alive_fold] at hf
  simp -implicitDefEqProofs [eV, v7]
  refine CallK.with hf (by simp [eV, v7, aliveL, eRs, eRc, zV, zC, zE]) ?_
  simp -implicitDefEqProofs [eSt]
  refine allocK.intro (fun b1 hb1 => ?_)
  simp -implicitDefEqProofs
  refine CallK.via (seen1_spec ⟨15, 0⟩ 0 5) (by simp [eSt]) ?_
  rintro _ ⟨tag, rfl⟩
  simp -implicitDefEqProofs
end Go.Proofs.YtjbbfiagijjdoaaGreat

/- Plain: the same log behind itself changes nothing; records of unlike kinds or views may turn. No condition. -/
set_option linter.unusedSimpArgs false
set_option linter.unusedVariables false
set_option maxRecDepth 10000
namespace Go.Proofs.YtjbbfiagijjdoaaGreat
open Go Go.Rw Go.Proofs

/-- two states that tell the same are the same -/
theorem state_ext {n m : Nat} {s t : PState} (hs : OkT n s) (ht : OkT m t) (h1 : ∀ k, lookK keyVB s.books k = lookK keyVB t.books k) (h2 : ∀ k, lookK keyVC s.cells k = lookK keyVC t.cells k)
    (h3 : ∀ k, lookK keyVI s.intents k = lookK keyVI t.intents k) (h4 : s.held = t.held) (h5 : s.inc = t.inc) (h6 : s.last = t.last) : s = t := by
  have e1 := sort_ext hs.sb ht.sb h1
  have e2 := sort_ext hs.sc ht.sc h2
  have e3 := sort_ext hs.si ht.si h3
  obtain ⟨a, b, c, d, e, f⟩ := s
  obtain ⟨a', b', c', d', e', f'⟩ := t
  simp only at e1 e2 e3 h4 h5 h6
  rw [e1, e2, e3, h4, h5, h6]
/-- the state has the record -/
def hasRec (s : PState) (r : PRec) : Prop :=
  (r.kind = 1 → ∃ b, lookK keyVB s.books (nameV r.view) = some ⟨r.view, b⟩ ∧ lessT (findE b r.entry.key).tag r.entry.tag = false) ∧
  (r.kind = 2 → ∃ c, lookK keyVC s.cells (nameV r.view) = some ⟨r.view, c⟩ ∧ (ofC c r.cell.node).isSome = true) ∧
  (r.kind = 3 → ¬ (withinV s.held r.view = true ∧ ¬ s.held = r.view)) ∧
  (r.kind = 4 → r.n ≤ s.last) ∧
  (r.kind = 5 → (intentS s r.view).isSome = true) ∧
  (r.kind = 6 → r.n ≤ s.inc)
theorem bookS_of {s : PState} (h : sortK keyVB s.books) {v : PView} {b : List PEntry} (hb : lookK keyVB s.books (nameV v) = some ⟨v, b⟩) : bookS s v = b := by
  rw [bookS_look h, hb]; rfl
theorem cellsS_of {s : PState} (h : sortK keyVC s.cells) {v : PView} {b : List PCell} (hb : lookK keyVC s.cells (nameV v) = some ⟨v, b⟩) : cellsS s v = b := by
  rw [cellsS_look h, hb]; rfl
theorem merge_same {b : List PEntry} {e : PEntry} (hb : okB b) (he : okB [e]) (h : lessT (findE b e.key).tag e.tag = false) : mergeE b [e] = b := by
  refine book_ext (okB_merge hb.right he.right) hb fun k => ?_
  rw [findE_merge hb he, findE_one]
  by_cases hk : e.key = k
  · subst hk
    rw [if_pos rfl]
    unfold newerE
    rw [h]; simp
  · rw [if_neg hk]
    unfold newerE
    have : lessT (findE b k).tag (⟨k, ⟨0, 0⟩, 0⟩ : PEntry).tag = false := by
      rcases findE_ok hb k with h1 | ⟨_, _, h1, _⟩
      · rw [h1, lessT_no]; simp
      · rw [lessT_no]; simp only; omega
    rw [this]; simp
theorem mergeC_same {b : List PCell} {c : PCell} (hb : okCs b) (hc : okCs [c]) (h : (ofC b c.node).isSome = true) : mergeC b [c] = b := by
  refine cells_ext (okCs_merge _ _) hb fun k => ?_
  rw [ofC_merge hb hc, ofC_one]
  by_cases hk : c.node = k
  · subst hk
    rw [if_pos h]
  · rw [if_neg hk]
    split
    · rfl
    · rename_i h1
      cases ho : ofC b k with
      | none => rfl
      | some u => rw [ho] at h1; simp at h1
/-- what it has changes nothing -/
theorem has_same {n : Nat} {s : PState} (hs : OkT n s) {r : PRec} (hr : rightR r = true) (h : hasRec s r) : applyS s r = s := by
  have R := rightR_of hr
  obtain ⟨h1, h2, h3, h4, h5, h6⟩ := h
  refine state_ext (okT_apply hs hr) hs (fun k => ?_) (fun k => ?_) (fun k => ?_) ?_ ?_ ?_
  · rw [apply_books]
    split
    · rename_i hk
      obtain ⟨b, hb, hl⟩ := h1 hk.1
      have e := bookS_of hs.sb hb
      have ob : okB b := by rw [← e]; exact hs.bookOk r.view
      rw [← hk.2, hb, e, merge_same ob (R.entry hk.1) hl]
    · rfl
  · rw [apply_cells]
    split
    · rename_i hk
      obtain ⟨b, hb, hl⟩ := h2 hk.1
      have e := cellsS_of hs.sc hb
      have ob : okCs b := by rw [← e]; exact hs.cells r.view
      have oc := (R.ccell hk.1).1
      rw [← hk.2, hb, e, mergeS_eq ob oc, mergeC_same ob oc hl]
    · rfl
  · rw [apply_intents]
    split
    · rename_i hk
      have := h5 hk.1
      rw [hk.2.1] at this; simp at this
    · rfl
  · rw [apply_held]
    split
    · rename_i hk
      have := h3 hk.1
      by_cases he : s.held = r.view
      · exact he.symm
      · exact absurd ⟨hk.2, he⟩ this
    · rfl
  · rw [apply_inc]
    split
    · rename_i hk; have := h6 hk; omega
    · rfl
  · rw [apply_last]
    split
    · rename_i hk; have := h4 hk; omega
    · rfl
/-! ### within -/
theorem setN_fin : ∀ x : Fin 64, setN (bitV ((x.val : Nat) : Int)) = ((x.val : Nat) : Int) := by decide +kernel
theorem setN_bits {x : Int} (h0 : 0 ≤ x) (h1 : x < 64) : setN (bitV x) = x := by
  have := setN_fin ⟨x.toNat, by omega⟩
  simp only [Int.toNat_of_nonneg h0] at this
  exact this
theorem setN_zero_b : ∀ a b c d e g : Bool, ((if a then (1 : Int) else 0) + (if b then 2 else 0) + (if c then 4 else 0) + (if d then 8 else 0) + (if e then 16 else 0) + (if g then 32 else 0) = 0 ↔ (a = false ∧ b = false ∧ c = false ∧ d = false ∧ e = false ∧ g = false)) := by decide
theorem setN_zero (f : Nat → Bool) : setN f = 0 ↔ ∀ k, k < 6 → f k = false := by
  unfold setN
  rw [setN_zero_b]
  constructor
  · rintro ⟨h0, h1, h2, h3, h4, h5⟩ k hk
    match k, hk with
    | 0, _ => exact h0
    | 1, _ => exact h1
    | 2, _ => exact h2
    | 3, _ => exact h3
    | 4, _ => exact h4
    | 5, _ => exact h5
    | k + 6, hk => omega
  · intro h
    exact ⟨h 0 (by omega), h 1 (by omega), h 2 (by omega), h 3 (by omega), h 4 (by omega), h 5 (by omega)⟩
theorem andN_zero (x y : Int) : andN x y = 0 ↔ ∀ k, k < 6 → bitV x k = true → bitV y k = true := by
  unfold andN
  rw [setN_zero]
  refine forall_congr' fun k => forall_congr' fun hk => ?_
  cases bitV x k <;> cases bitV y k <;> simp
theorem within_iff (a b : PView) : withinV a b = true ↔ (∀ k, k < 6 → bitV a.add k = true → bitV b.add k = true) ∧ ∀ k, k < 6 → bitV a.del k = true → bitV b.del k = true := by
  unfold withinV minusV
  rw [decide_eq_true_eq, PView.mk.injEq, andN_zero, andN_zero]
theorem within_trans {a b c : PView} (h1 : withinV a b = true) (h2 : withinV b c = true) : withinV a c = true := by
  rw [within_iff] at *
  exact ⟨fun k hk h => h2.1 k hk (h1.1 k hk h), fun k hk h => h2.2 k hk (h1.2 k hk h)⟩
theorem setN_congr {f g : Nat → Bool} (h : ∀ k, k < 6 → f k = g k) : setN f = setN g := by
  unfold setN
  rw [h 0 (by omega), h 1 (by omega), h 2 (by omega), h 3 (by omega), h 4 (by omega), h 5 (by omega)]
theorem within_anti {a b : PView} (ha : rightV a = true) (hb : rightV b = true) (h1 : withinV a b = true) (h2 : withinV b a = true) : a = b := by
  rw [within_iff] at *
  simp [rightV] at ha hb
  have eqb : ∀ x y : Int, (∀ k, k < 6 → bitV x k = true → bitV y k = true) → (∀ k, k < 6 → bitV y k = true → bitV x k = true) → setN (bitV x) = setN (bitV y) := fun x y h1 h2 => setN_congr fun k hk => by
    have a1 := h1 k hk
    have a2 := h2 k hk
    cases hx : bitV x k <;> cases hy : bitV y k <;> simp_all
  have e1 := eqb _ _ h1.1 h2.1
  have e2 := eqb _ _ h1.2 h2.2
  rw [setN_bits ha.1.1 ha.1.2, setN_bits hb.1.1 hb.1.2] at e1
  rw [setN_bits ha.2.1 ha.2.2, setN_bits hb.2.1 hb.2.2] at e2
  obtain ⟨x, y⟩ := a
  obtain ⟨x', y'⟩ := b
  simp only at e1 e2
  rw [e1, e2]
/-! ### what was written is there -/
theorem held_grows {s : PState} (r : PRec) : withinV s.held (applyS s r).held = true := by
  rw [apply_held]
  split
  · rename_i h; exact h.2
  · exact withinV_self _
theorem has_new {n : Nat} {s : PState} (hs : OkT n s) {r : PRec} (hr : rightR r = true) : hasRec (applyS s r) r := by
  have R := rightR_of hr
  have hv := (right_cell hr).1
  refine ⟨fun hk => ⟨mergeE (bookS s r.view) [r.entry], ?_, ?_⟩, fun hk => ⟨mergeS (cellsS s r.view) [r.cell], ?_, ?_⟩, fun hk => ?_, fun hk => ?_, fun hk => ?_, fun hk => ?_⟩
  · rw [apply_books, if_pos ⟨hk, rfl⟩]
  · rw [findE_merge (hs.bookOk r.view) (R.entry hk), findE_one, if_pos rfl]
    exact newer_rightT _ _
  · rw [apply_cells, if_pos ⟨hk, rfl⟩]
  · rw [mergeS_eq (hs.cells r.view) (okCs_one (right_cell hr).2), ofC_merge (hs.cells r.view) (okCs_one (right_cell hr).2), ofC_one, if_pos rfl]
    split
    · assumption
    · rfl
  · rw [apply_held]
    split
    · rintro ⟨_, h⟩; exact h rfl
    · rename_i h
      rintro ⟨h1, _⟩
      exact h ⟨hk, h1⟩
  · rw [apply_last, if_pos hk]; omega
  · rw [intentS_apply hs.toOkN hr hv]
    split
    · rfl
    · rename_i h
      cases ho : intentS s r.view with
      | none => exact absurd ⟨hk, rfl, ho⟩ h
      | some c => rfl
  · rw [apply_inc, if_pos hk]; omega
theorem has_stays {n : Nat} {s : PState} (hs : OkT n s) {r r' : PRec} (hr : rightR r = true) (hr' : rightR r' = true) (h : hasRec s r) : hasRec (applyS s r') r := by
  have hv := (right_cell hr).1
  have hv' := (right_cell hr').1
  have R' := rightR_of hr'
  have ht := okT_apply hs hr'
  obtain ⟨h1, h2, h3, h4, h5, h6⟩ := h
  refine ⟨fun hk => ?_, fun hk => ?_, fun hk => ?_, fun hk => ?_, fun hk => ?_, fun hk => ?_⟩
  · obtain ⟨b, hb, hl⟩ := h1 hk
    have hg := bookS_grows hs hr' hv r.entry.key
    rw [bookS_of hs.sb hb] at hg
    by_cases hc : r'.kind = 1 ∧ nameV r'.view = nameV r.view
    · have e := name_inj hv' hv hc.2
      refine ⟨mergeE (bookS s r'.view) [r'.entry], by rw [apply_books, if_pos hc, e], ?_⟩
      have e2 : bookS (applyS s r') r.view = mergeE (bookS s r'.view) [r'.entry] := by
        rw [bookS_apply hs.toOkN hr' hv, if_pos ⟨hc.1, e⟩, e]
      rw [e2] at hg
      exact lessT_trans hl hg
    · exact ⟨b, by rw [apply_books, if_neg hc]; exact hb, hl⟩
  · obtain ⟨b, hb, hl⟩ := h2 hk
    by_cases hc : r'.kind = 2 ∧ nameV r'.view = nameV r.view
    · have e := name_inj hv' hv hc.2
      refine ⟨mergeS (cellsS s r'.view) [r'.cell], by rw [apply_cells, if_pos hc, e], ?_⟩
      have e3 : cellsS s r'.view = b := by rw [e]; exact cellsS_of hs.sc hb
      rw [mergeS_eq (hs.cells r'.view) (okCs_one (right_cell hr').2), ofC_merge (hs.cells r'.view) (okCs_one (right_cell hr').2), e3, if_pos hl]
      exact hl
    · exact ⟨b, by rw [apply_cells, if_neg hc]; exact hb, hl⟩
  · have hg := held_grows (s := s) r'
    rintro ⟨h7, h8⟩
    have h9 := within_trans hg h7
    have h10 : s.held = r.view := Classical.byContradiction fun hne => h3 hk ⟨h9, hne⟩
    rw [h10] at hg
    exact h8 (within_anti ht.rh hv h7 hg)
  · have := h4 hk
    rw [apply_last]; split <;> omega
  · have := h5 hk
    rw [intentS_apply hs.toOkN hr' hv]
    split
    · rfl
    · exact this
  · have := h6 hk
    rw [apply_inc]; split <;> omega
theorem has_all : ∀ {l : List PRec} {n : Nat} {s : PState}, OkT n s → (∀ r ∈ l, rightR r = true) → (∀ r ∈ l, hasRec (l.foldl applyS s) r) ∧ ∀ r, rightR r = true → hasRec s r → hasRec (l.foldl applyS s) r
  | [], n, s, _, _ => ⟨fun r hr => by simp at hr, fun r _ h => h⟩
  | x :: l, n, s, hs, hl => by
    have hx := hl x (by simp)
    obtain ⟨i1, i2⟩ := has_all (okT_apply hs hx) (fun r hr => hl r (by simp [hr])) (l := l)
    rw [List.foldl_cons]
    refine ⟨fun r hr => ?_, fun r hr h => i2 r hr (has_stays hs hr hx h)⟩
    rcases List.mem_cons.1 hr with rfl | hr
    · exact i2 _ hx (has_new hs hx)
    · exact i1 r hr
/-- the same log behind itself changes nothing -/
theorem fold_has {v : PView} (hv : rightV v = true) {l : List PRec} (hl : ∀ r ∈ l, rightR r = true) : ∀ r ∈ l, applyS (foldS v l) r = foldS v l := by
  intro r hr
  have O := okT_fold hv hl l.length (Nat.le_refl _)
  rw [List.take_length] at O
  exact has_same O (hl r hr) ((has_all (okT_new hv) hl).1 r hr)
end Go.Proofs.YtjbbfiagijjdoaaGreat

/- The laws FoldNames and FoldTwice, walked. No condition. -/
set_option linter.unusedSimpArgs false
set_option linter.unusedVariables false
set_option maxRecDepth 10000
namespace Go.Proofs.YtjbbfiagijjdoaaGreat
open Go Go.Rw Go.Proofs
-- a goal is never to be run by the elaborator
attribute [local irreducible] awp aops aop aopsE aeff

def R12I (l : List PRec) (b1 : Nat) (v : PView) (t : Nat → AV) (h : Nat → Option (List AV)) : Prop := ∃ k : Nat, t 2 = .ptr b1 0 ∧ t 7 = .sl .no (eRs l) ∧ t 8 = eI l.length ∧ t 9 = eI k ∧ k ≤ l.length ∧ h b1 = some (eV v) ∧ ∀ r ∈ l.take k, rightR r = true
def R12M (l : List PRec) (b1 : Nat) (v : PView) (t : Nat → AV) (h : Nat → Option (List AV)) : Prop := t 2 = .ptr b1 0 ∧ h b1 = some (eV v) ∧ ∀ r ∈ l, rightR r = true
theorem right12_spec (v : PView) (l : List PRec) (hf : ∀ r ∈ l, fitR r) (hl : l.length ≤ 1000000000) : ASpec Tryz.prog 29 [.agg (eV v), .sl .no (eRs l)] (· = .v (.bool (l.all rightR && rightV v))) := by
  refine ASpec.of_awp Tryz.func29 (by kernel_rfl) rfl (by rw [Tryz.results29]) Tryz.ntmps29 ?_
  simp -implicitDefEqProofs [eV]
  refine allocK.intro (fun b1 hb1 => ?_)
  simp -implicitDefEqProofs
  intro _
  refine loopK.post (R12I l b1 v) (fun t => l.length - natOf (t 9)) (R12M l b1 v) ?_ ?_ ?_
  · exact ⟨0, by simp, by simp, by simp, by simp, by omega, by simp [eV], by simp⟩
  · rintro t hh ⟨k, g5, g9, g10, g11, hk, e1, hr⟩
    by_cases hlt : k < l.length
    · have hlt' : (k : Int) < (l.length : Int) := by omega
      have hw : IntKind.i64.wrap ((k : Int) + 1) = ((k + 1 : Nat) : Int) := by rw [w64 (by omega) (by omega)]; omega
      obtain ⟨r, hx⟩ : ∃ r, l[k]? = some r := ⟨l[k], by simp [hlt]⟩
      have hrs := right9r_spec r (hf r (List.mem_of_getElem? hx))
      simp -implicitDefEqProofs [g9, g10, g11, hlt', hx, eRc]
      refine allocK.intro (fun b2 hb2 => ?_)
      have n12 : ¬ b1 = b2 := by rintro rfl; rw [e1] at hb2; simp at hb2
      have n21 : ¬ b2 = b1 := fun h => n12 h.symm
      simp -implicitDefEqProofs [n12, n21]
      refine CallK.with hrs (by simp [eRc]) ?_
      cases hi : rightR r
      · have hall : l.all rightR = false := by
          rw [Bool.eq_false_iff]
          intro h
          rw [List.all_eq_true] at h
          have := h r (List.mem_of_getElem? hx)
          rw [hi] at this; simp at this
        simp -implicitDefEqProofs [hall]
      · simp -implicitDefEqProofs [g11, hw, n12, n21]
        exact ⟨⟨k + 1, by simp [g5], by simp [g9], by simp [g10], by simp, by omega, by simp [n12, e1], take_all hx hi hr⟩, by omega⟩
    · have hlt' : ¬ (k : Int) < (l.length : Int) := by omega
      rw [List.take_of_length_le (by omega)] at hr
      simp -implicitDefEqProofs [g10, g11, hlt']
      exact ⟨g5, e1, hr⟩
  rintro t hh ⟨g5, e1, hr⟩
  rw [eV] at e1
  have hall : l.all rightR = true := by rw [List.all_eq_true]; exact hr
  simp -implicitDefEqProofs [g5, e1, hall]
  refine CallK.with (right4_spec v) (by simp [eV]) ?_
  simp -implicitDefEqProofs [hall]
theorem right12_of {v : PView} {l : List PRec} (h : (l.all rightR && rightV v) = true) : (∀ r ∈ l, rightR r = true) ∧ rightV v = true := by
  simp only [Bool.and_eq_true, List.all_eq_true] at h
  exact h
def TwI (l : List PRec) (s : PState) (b2 b3 : Nat) (t : Nat → AV) (h : Nat → Option (List AV)) : Prop := ∃ k : Nat, t 5 = .ptr b2 0 ∧ t 6 = .ptr b3 0 ∧ t 24 = .sl .no (eRs l) ∧ t 25 = eI l.length ∧ t 26 = eI k ∧ k ≤ l.length ∧ h b2 = some (eSt s) ∧ h b3 = some (eSt s)
def TwM (s : PState) (b2 b3 : Nat) (t : Nat → AV) (h : Nat → Option (List AV)) : Prop := t 5 = .ptr b2 0 ∧ t 6 = .ptr b3 0 ∧ h b2 = some (eSt s) ∧ h b3 = some (eSt s)
theorem twice12_law (v : PView) (l : List PRec) (hf : ∀ r ∈ l, fitR r) (hl : l.length ≤ 1048576) : ASpec Tryz.prog 14 [.agg (eV v), .sl .no (eRs l)] (· = .v (.bool true)) := by
  refine ASpec.of_awp Tryz.func14 (by kernel_rfl) rfl (by rw [Tryz.results14]) Tryz.ntmps14 ?_
  simp -implicitDefEqProofs [eV]
  refine allocK.intro (fun b1 hb1 => ?_)
  simp -implicitDefEqProofs
  refine CallK.eq alive12_spec ?_
  simp -implicitDefEqProofs
  intro _
  by_cases h60 : 40 < l.length
  · have h60' : (40 : Int) < (l.length : Int) := by omega
    simp -implicitDefEqProofs [h60, h60']
  have h60' : ¬ (40 : Int) < (l.length : Int) := by omega
  simp -implicitDefEqProofs [h60, h60']
  refine CallK.with (right12_spec v l hf (by omega)) (by simp [eV]) ?_
  cases hr : (l.all rightR && rightV v)
  · simp -implicitDefEqProofs
  obtain ⟨hr1, hv⟩ := right12_of hr
  simp -implicitDefEqProofs
  have hfold := fold_spec v l hv hr1 (by omega)
  have hok := okT_fold hv hr1 l.length (Nat.le_refl _)
  rw [List.take_length] at hok
  have hsame := fold_has hv hr1
  generalize foldS v l = s at *
  refine CallK.with hfold (by simp [eV]) ?_
  simp -implicitDefEqProofs [eSt]
  refine allocK.intro (fun b2 hb2 => ?_)
  have n12 : ¬ b1 = b2 := by rintro rfl; simp at hb2
  have n21 : ¬ b2 = b1 := fun h => n12 h.symm
  simp -implicitDefEqProofs [n12, n21]
  refine allocK.intro (fun b3 hb3 => ?_)
  have n13 : ¬ b1 = b3 := by rintro rfl; simp [n12] at hb3
  have n31 : ¬ b3 = b1 := fun h => n13 h.symm
  have n23 : ¬ b2 = b3 := by rintro rfl; simp at hb3
  have n32 : ¬ b3 = b2 := fun h => n23 h.symm
  simp -implicitDefEqProofs [n12, n21, n13, n31, n23, n32]
  intro _
  refine loopK.post (TwI l s b2 b3) (fun t => l.length - natOf (t 26)) (TwM s b2 b3) ?_ ?_ ?_
  · exact ⟨0, by simp, by simp, by simp, by simp, by simp, by omega, by simp [n12, n21, n13, n31, n23, n32, eSt], by simp [eSt]⟩
  · rintro t hh ⟨k, g5, g6, g24, g25, g26, hkl, c2, c3⟩
    by_cases hlt : k < l.length
    · have hlt' : (k : Int) < (l.length : Int) := by omega
      have hw : IntKind.i64.wrap ((k : Int) + 1) = ((k + 1 : Nat) : Int) := by rw [w64 (by omega) (by omega)]; omega
      obtain ⟨r, hx⟩ : ∃ r, l[k]? = some r := ⟨l[k], by simp [hlt]⟩
      have hrr := hr1 r (List.mem_of_getElem? hx)
      have hap := apply_spec s r (hok.ok (by omega)) (right_cell hrr).1 (hok.news hrr)
      rw [hsame r (List.mem_of_getElem? hx)] at hap
      simp -implicitDefEqProofs [g24, g25, g26, hlt', hx, eRc]
      refine allocK.intro (fun b6 hb6 => ?_)
      have n26 : ¬ b2 = b6 := by rintro rfl; rw [c2] at hb6; simp at hb6
      have n36 : ¬ b3 = b6 := by rintro rfl; rw [c3] at hb6; simp at hb6
      have n63 : ¬ b6 = b3 := fun h => n36 h.symm
      have c3' := c3
      rw [eSt] at c3'
      simp -implicitDefEqProofs [g6, c3', n36, n63]
      refine CallK.with hap (by simp [eSt, eRc]) ?_
      simp -implicitDefEqProofs [g6, c3', n36, n63, g26, hw, eSt]
      exact ⟨⟨k + 1, by simp [g5], by simp [g6], by simp [g24], by simp [g25], by simp, by omega, by simp [n26, n23, c2], by simp [eSt]⟩, by omega⟩
    · have hlt' : ¬ (k : Int) < (l.length : Int) := by omega
      simp -implicitDefEqProofs [g25, g26, hlt']
      exact ⟨by simp [g5], by simp [g6], c2, c3⟩
  rintro t hh ⟨g5, g6, c2, c3⟩
  rw [eSt] at c2 c3
  simp -implicitDefEqProofs [g5, g6, c2, c3]
  refine CallK.with (foldsame_spec s s) (by simp [eSt]) ?_
  rw [sameSt_self]
  simp -implicitDefEqProofs
theorem names12_law : ASpec Tryz.prog 12 [] (· = .v (.bool true)) := by
  refine ASpec.of_awp Tryz.func12 (by kernel_rfl) rfl (by rw [Tryz.results12]) Tryz.ntmps12 ?_
  simp -implicitDefEqProofs
  refine CallK.eq first_spec ?_
  simp -implicitDefEqProofs [eV, v7]
  refine CallK.with (new_spec v7) (by simp [eV, v7]) ?_
  simp -implicitDefEqProofs [eSt, v7]
  refine allocK.intro (fun b1 hb1 => ?_)
  simp -implicitDefEqProofs
  refine regionK.modes [] [.q, .q, .q, .q, .q, .q, .l, .s, .r] follows_mixed (by kernel_rfl) ?_
  simp -implicitDefEqProofs
  refine CallQ.eq first_spec ?_
  simp -implicitDefEqProofs [eV, v7]
  have hi := intent_spec (newS v7) v7 (ok7.ok (by omega)) rightV_v7
  have e1 : intentA (newS v7) v7 = .tup [.agg [eI 0, eI 0], .v (.bool false)] := rfl
  rw [e1] at hi
  refine CallQ.with hi (by simp [newS, v7, eSt, eV]) ?_
  simp -implicitDefEqProofs
  refine allocK.intro (fun b2 hb2 => ?_)
  have n12 : ¬ b1 = b2 := by rintro rfl; simp at hb2
  have n21 : ¬ b2 = b1 := fun h => n12 h.symm
  simp -implicitDefEqProofs [n12, n21]
  refine regionK.intro 29 follows_mixed (by kernel_rfl) ?_
  simp -implicitDefEqProofs [n12, n21]
  refine CallQ.eq alive12_spec ?_
  simp -implicitDefEqProofs [n12, n21]
  refine CallQ.eq first_spec ?_
  simp -implicitDefEqProofs [n12, n21, eV, v7]
  refine CallQ.of (x := .sl .no []) (by have := book_spec (newS v7) v7 (ok7.ok (by omega)) rightV_v7; simpa [newS, v7, eSt, eV] using this) (by rintro _ ⟨tag, rfl⟩; rfl) ?_
  simp -implicitDefEqProofs [n12, n21]
  refine CallQ.eq first_spec ?_
  simp -implicitDefEqProofs [n12, n21, eV, v7]
  have w0 : IntKind.i64.wrap 0 = 0 := by decide
  refine CallQ.of (x := .sl .no []) (by have := cells_spec (newS v7) v7 (ok7.ok (by omega)) rightV_v7; simpa [newS, v7, eSt, eV] using this) (by rintro _ ⟨tag, rfl⟩; rfl) ?_
  simp -implicitDefEqProofs [n12, n21, w0]
  refine CallQ.eq first_spec ?_
  simp -implicitDefEqProofs [n12, n21, eV, v7]
  refine CallQ.eq first_spec ?_
  simp -implicitDefEqProofs [n12, n21, eV, v7]
  refine CallQ.with (fold_spec v7 [] rightV_v7 (by simp) (by simp)) (by simp [eV, v7, eRs]) ?_
  simp -implicitDefEqProofs [n12, n21, foldS, newS, eSt, v7]
  refine CallQ.with (foldsame_spec (newS v7) (newS v7)) (by simp [eSt, newS, v7]) ?_
  rw [sameSt_self]
  simp -implicitDefEqProofs
end Go.Proofs.YtjbbfiagijjdoaaGreat

/- Contracts: the document's books, cells and intents out of all records. No condition. -/
set_option linter.unusedSimpArgs false
set_option linter.unusedVariables false
set_option maxRecDepth 10000
namespace Go.Proofs.YtjbbfiagijjdoaaGreat
open Go Go.Rw Go.Proofs
-- a goal is never to be run by the elaborator
attribute [local irreducible] awp aops aop aopsE aeff

def bookL (l : List PRec) (v : PView) : List PEntry := l.foldl (fun b r => if r.kind = 1 ∧ r.view = v then mergeD b [r.entry] else b) []
def cellsL (l : List PRec) (v : PView) : List PCell := l.foldl (fun b r => if r.kind = 2 ∧ r.view = v then mergeC b [r.cell] else b) []
def intentL (l : List PRec) (v : PView) : Option PView := (l.find? fun r => decide (r.kind = 5 ∧ r.view = v)).map (·.cell.change)
theorem bookL_step {l : List PRec} {k : Nat} {r : PRec} {v : PView} (h : l[k]? = some r) : bookL (l.take (k + 1)) v = if r.kind = 1 ∧ r.view = v then mergeD (bookL (l.take k) v) [r.entry] else bookL (l.take k) v := by
  unfold bookL
  rw [List.take_add_one, h, List.foldl_append]; rfl
theorem cellsL_step {l : List PRec} {k : Nat} {r : PRec} {v : PView} (h : l[k]? = some r) : cellsL (l.take (k + 1)) v = if r.kind = 2 ∧ r.view = v then mergeC (cellsL (l.take k) v) [r.cell] else cellsL (l.take k) v := by
  unfold cellsL
  rw [List.take_add_one, h, List.foldl_append]; rfl
theorem view_eq {a b : PView} : a = b ↔ a.add = b.add ∧ a.del = b.del := by cases a; cases b; simp
def BlI (l : List PRec) (v : PView) (b1 : Nat) (t : Nat → AV) (h : Nat → Option (List AV)) : Prop := ∃ (k : Nat) (tag : Tag), t 3 = .ptr b1 0 ∧ t 5 = .sl tag (eEs (bookL (l.take k) v)) ∧ t 9 = .sl .no (eRs l) ∧ t 10 = eI l.length ∧ t 11 = eI k ∧ k ≤ l.length ∧ h b1 = some (eV v)
def BlM (l : List PRec) (v : PView) (t : Nat → AV) (h : Nat → Option (List AV)) : Prop := ∃ tag : Tag, t 5 = .sl tag (eEs (bookL l v))
theorem book12_spec (l : List PRec) (v : PView) (hl : l.length ≤ 1000000000) : ASpec Tryz.prog 38 [.sl .no (eRs l), .agg (eV v)] (fun r => ∃ tag, r = .sl tag (eEs (bookL l v))) := by
  refine ASpec.of_awp Tryz.func38 (by kernel_rfl) rfl (by rw [Tryz.results38]) Tryz.ntmps38 ?_
  simp -implicitDefEqProofs [eV]
  refine allocK.intro (fun b1 hb1 => ?_)
  simp -implicitDefEqProofs
  intro _
  refine loopK.post (BlI l v b1) (fun t => l.length - natOf (t 11)) (BlM l v) ?_ ?_ ?_
  · exact ⟨0, _, by simp, by simp [bookL]; rfl, by simp, by simp, by simp, by omega, by simp [eV]⟩
  · rintro t hh ⟨k, tag, g3, g5, g9, g10, g11, hk, e3⟩
    by_cases hlt : k < l.length
    · have hlt' : (k : Int) < (l.length : Int) := by omega
      have hw : IntKind.i64.wrap ((k : Int) + 1) = ((k + 1 : Nat) : Int) := by rw [w64 (by omega) (by omega)]; omega
      obtain ⟨r, hx⟩ : ∃ r, l[k]? = some r := ⟨l[k], by simp [hlt]⟩
      have hst := bookL_step (v := v) hx
      simp -implicitDefEqProofs [g9, g10, g11, hlt', hx, eRc]
      refine allocK.intro (fun b2 hb2 => ?_)
      have n12 : ¬ b1 = b2 := by rintro rfl; rw [e3] at hb2; simp at hb2
      have n21 : ¬ b2 = b1 := fun h => n12 h.symm
      have e3' := e3
      rw [eV] at e3'
      by_cases h1 : r.kind = 1
      · by_cases h2 : r.view.add = v.add
        · by_cases h3 : r.view.del = v.del
          · rw [if_pos ⟨h1, view_eq.2 ⟨h2, h3⟩⟩] at hst
            have hm := merge7_spec (bookL (l.take k) v) [r.entry]
            generalize bookL (l.take k) v = cur at *
            simp -implicitDefEqProofs [g3, e3', n12, n21, h1, h2, h3, g5]
            refine CallK.via hm (by simp [eEs, eE]) ?_
            rintro _ ⟨tag2, rfl⟩
            simp -implicitDefEqProofs [g11, hw]
            exact ⟨⟨k + 1, _, by simp [g3], by rw [hst]; simp; rfl, by simp [g9], by simp [g10], by simp, by omega, by simp [n12, n21, e3]⟩, by omega⟩
          · rw [if_neg (fun h => h3 (view_eq.1 h.2).2)] at hst
            have h3' : (r.view.del == v.del) = false := by simpa using h3
            simp -implicitDefEqProofs [g3, e3', n12, n21, h1, h2, h3, h3', g11, hw]
            exact ⟨⟨k + 1, tag, by simp [g3], by rw [hst]; simp [g5], by simp [g9], by simp [g10], by simp, by omega, by simp [n12, n21, e3]⟩, by omega⟩
        · rw [if_neg (fun h => h2 (view_eq.1 h.2).1)] at hst
          have h2' : (r.view.add == v.add) = false := by simpa using h2
          simp -implicitDefEqProofs [g3, e3', n12, n21, h1, h2, h2', g11, hw]
          exact ⟨⟨k + 1, tag, by simp [g3], by rw [hst]; simp [g5], by simp [g9], by simp [g10], by simp, by omega, by simp [n12, n21, e3]⟩, by omega⟩
      · rw [if_neg (fun h => h1 h.1)] at hst
        simp -implicitDefEqProofs [g3, n12, n21, h1, g11, hw]
        exact ⟨⟨k + 1, tag, by simp [g3], by rw [hst]; simp [g5], by simp [g9], by simp [g10], by simp, by omega, by simp [n12, n21, e3]⟩, by omega⟩
    · have hlt' : ¬ (k : Int) < (l.length : Int) := by omega
      rw [List.take_of_length_le (by omega)] at g5
      simp -implicitDefEqProofs [g10, g11, hlt']
      exact ⟨tag, by simp [g5]⟩
  rintro t hh ⟨tag, g5⟩
  simp -implicitDefEqProofs [g5]
def ClI (l : List PRec) (v : PView) (b1 : Nat) (t : Nat → AV) (h : Nat → Option (List AV)) : Prop := ∃ (k : Nat) (tag : Tag), t 3 = .ptr b1 0 ∧ t 5 = .sl tag (eCs (cellsL (l.take k) v)) ∧ t 9 = .sl .no (eRs l) ∧ t 10 = eI l.length ∧ t 11 = eI k ∧ k ≤ l.length ∧ h b1 = some (eV v)
def ClM (l : List PRec) (v : PView) (t : Nat → AV) (h : Nat → Option (List AV)) : Prop := ∃ tag : Tag, t 5 = .sl tag (eCs (cellsL l v))
theorem cells12_spec (l : List PRec) (v : PView) (hl : l.length ≤ 1000000000) : ASpec Tryz.prog 41 [.sl .no (eRs l), .agg (eV v)] (fun r => ∃ tag, r = .sl tag (eCs (cellsL l v))) := by
  refine ASpec.of_awp Tryz.func41 (by kernel_rfl) rfl (by rw [Tryz.results41]) Tryz.ntmps41 ?_
  simp -implicitDefEqProofs [eV]
  refine allocK.intro (fun b1 hb1 => ?_)
  simp -implicitDefEqProofs
  intro _
  refine loopK.post (ClI l v b1) (fun t => l.length - natOf (t 11)) (ClM l v) ?_ ?_ ?_
  · exact ⟨0, _, by simp, by simp [cellsL]; rfl, by simp, by simp, by simp, by omega, by simp [eV]⟩
  · rintro t hh ⟨k, tag, g3, g5, g9, g10, g11, hk, e3⟩
    by_cases hlt : k < l.length
    · have hlt' : (k : Int) < (l.length : Int) := by omega
      have hw : IntKind.i64.wrap ((k : Int) + 1) = ((k + 1 : Nat) : Int) := by rw [w64 (by omega) (by omega)]; omega
      obtain ⟨r, hx⟩ : ∃ r, l[k]? = some r := ⟨l[k], by simp [hlt]⟩
      have hst := cellsL_step (v := v) hx
      simp -implicitDefEqProofs [g9, g10, g11, hlt', hx, eRc]
      refine allocK.intro (fun b2 hb2 => ?_)
      have n12 : ¬ b1 = b2 := by rintro rfl; rw [e3] at hb2; simp at hb2
      have n21 : ¬ b2 = b1 := fun h => n12 h.symm
      have e3' := e3
      rw [eV] at e3'
      by_cases h1 : r.kind = 2
      · by_cases h2 : r.view.add = v.add
        · by_cases h3 : r.view.del = v.del
          · rw [if_pos ⟨h1, view_eq.2 ⟨h2, h3⟩⟩] at hst
            have hm := merge10_spec (cellsL (l.take k) v) [r.cell]
            generalize cellsL (l.take k) v = cur at *
            simp -implicitDefEqProofs [g3, e3', n12, n21, h1, h2, h3, g5]
            refine CallK.via hm (by simp [eCs, eC]) ?_
            rintro _ ⟨tag2, rfl⟩
            simp -implicitDefEqProofs [g11, hw]
            exact ⟨⟨k + 1, _, by simp [g3], by rw [hst]; simp; rfl, by simp [g9], by simp [g10], by simp, by omega, by simp [n12, n21, e3]⟩, by omega⟩
          · rw [if_neg (fun h => h3 (view_eq.1 h.2).2)] at hst
            have h3' : (r.view.del == v.del) = false := by simpa using h3
            simp -implicitDefEqProofs [g3, e3', n12, n21, h1, h2, h3, h3', g11, hw]
            exact ⟨⟨k + 1, tag, by simp [g3], by rw [hst]; simp [g5], by simp [g9], by simp [g10], by simp, by omega, by simp [n12, n21, e3]⟩, by omega⟩
        · rw [if_neg (fun h => h2 (view_eq.1 h.2).1)] at hst
          have h2' : (r.view.add == v.add) = false := by simpa using h2
          simp -implicitDefEqProofs [g3, e3', n12, n21, h1, h2, h2', g11, hw]
          exact ⟨⟨k + 1, tag, by simp [g3], by rw [hst]; simp [g5], by simp [g9], by simp [g10], by simp, by omega, by simp [n12, n21, e3]⟩, by omega⟩
      · rw [if_neg (fun h => h1 h.1)] at hst
        simp -implicitDefEqProofs [g3, n12, n21, h1, g11, hw]
        exact ⟨⟨k + 1, tag, by simp [g3], by rw [hst]; simp [g5], by simp [g9], by simp [g10], by simp, by omega, by simp [n12, n21, e3]⟩, by omega⟩
    · have hlt' : ¬ (k : Int) < (l.length : Int) := by omega
      rw [List.take_of_length_le (by omega)] at g5
      simp -implicitDefEqProofs [g10, g11, hlt']
      exact ⟨tag, by simp [g5]⟩
  rintro t hh ⟨tag, g5⟩
  simp -implicitDefEqProofs [g5]
end Go.Proofs.YtjbbfiagijjdoaaGreat

/- Contracts: all views of records, each once, by their names. No condition. -/
set_option linter.unusedSimpArgs false
set_option linter.unusedVariables false
set_option maxRecDepth 10000
namespace Go.Proofs.YtjbbfiagijjdoaaGreat
open Go Go.Rw Go.Proofs
-- a goal is never to be run by the elaborator
attribute [local irreducible] awp aops aop aopsE aeff

def relR (r : PRec) : Bool := decide (r.kind = 1 ∨ r.kind = 2 ∨ r.kind = 5)
def presL (l : List PRec) (n : Nat) : Bool := l.any fun r => relR r && decide (nameV r.view = (n : Int))
def viewsTo (l : List PRec) (m : Nat) : List PView := ((List.range m).filter (presL l)).map fun (n : Nat) => viewN (n : Int)
def bestF (m : Int) (b : Int) (r : PRec) : Int := if relR r = true ∧ m < nameV r.view ∧ nameV r.view < b then nameV r.view else b
def bestL (l : List PRec) (m b : Int) : Int := l.foldl (bestF m) b
theorem bestL_spec : ∀ (l : List PRec) (m b : Int), (bestL l m b = b ∨ ∃ r ∈ l, relR r = true ∧ nameV r.view = bestL l m b ∧ m < bestL l m b) ∧ bestL l m b ≤ b ∧ ∀ r ∈ l, relR r = true → m < nameV r.view → bestL l m b ≤ nameV r.view
  | [], m, b => ⟨.inl rfl, Int.le_refl _, fun r hr => by simp at hr⟩
  | r :: l, m, b => by
    obtain ⟨h1, h2, h3⟩ := bestL_spec l m (bestF m b r)
    have e : bestL (r :: l) m b = bestL l m (bestF m b r) := rfl
    rw [e]
    generalize bestL l m (bestF m b r) = x at *
    unfold bestF at *
    by_cases h : relR r = true ∧ m < nameV r.view ∧ nameV r.view < b
    · simp only [h, and_self, if_true] at h1 h2
      refine ⟨.inr ?_, by omega, fun r' hr' hrel hm => ?_⟩
      · rcases h1 with h1 | ⟨r', hr', h4, h5, h6⟩
        · exact ⟨r, by simp, h.1, by omega, by omega⟩
        · exact ⟨r', by simp [hr'], h4, h5, h6⟩
      · rcases List.mem_cons.1 hr' with rfl | hr'
        · omega
        · exact h3 r' hr' hrel hm
    · rw [if_neg h] at h1 h2
      refine ⟨?_, h2, fun r' hr' hrel hm => ?_⟩
      · rcases h1 with h1 | ⟨r', hr', h4, h5, h6⟩
        · exact .inl h1
        · exact .inr ⟨r', by simp [hr'], h4, h5, h6⟩
      · rcases List.mem_cons.1 hr' with rfl | hr'
        · have : ¬ nameV r'.view < b := fun h5 => h ⟨hrel, hm, h5⟩
          omega
        · exact h3 r' hr' hrel hm
theorem bestL_step {l : List PRec} {k : Nat} {r : PRec} {m : Int} (h : l[k]? = some r) : bestL (l.take (k + 1)) m 5000 = bestF m (bestL (l.take k) m 5000) r := by
  unfold bestL
  rw [List.take_add_one, h, List.foldl_append]; rfl
theorem viewsTo_succ (l : List PRec) (m : Nat) : viewsTo l (m + 1) = viewsTo l m ++ (if presL l m = true then [viewN (m : Int)] else []) := by
  unfold viewsTo
  rw [List.range_succ, List.filter_append, List.map_append]
  cases h : presL l m <;> simp [h]
theorem viewsTo_skip {l : List PRec} {m k : Nat} (hk : m ≤ k) (h : ∀ n, m ≤ n → n < k → presL l n = false) : viewsTo l k = viewsTo l m := by
  induction k with
  | zero => obtain rfl : m = 0 := by omega
            rfl
  | succ k ih =>
    by_cases hm : m = k + 1
    · rw [hm]
    · rw [viewsTo_succ, h k (by omega) (by omega), ih (by omega) (fun n h1 h2 => h n h1 (by omega))]
      simp
theorem presL_iff {l : List PRec} {n : Nat} : presL l n = true ↔ ∃ r ∈ l, relR r = true ∧ nameV r.view = (n : Int) := by
  unfold presL
  rw [List.any_eq_true]
  simp only [Bool.and_eq_true, decide_eq_true_eq]
/-- the least name that comes next -/
theorem best_next {l : List PRec} (hv : ∀ r ∈ l, rightV r.view = true) {m : Nat} (hm : m ≤ 4096) : (bestL l ((m : Int) - 1) 5000 = 5000 ∧ viewsTo l 4096 = viewsTo l m) ∨
    (∃ b : Nat, m ≤ b ∧ b < 4096 ∧ bestL l ((m : Int) - 1) 5000 = (b : Int) ∧ viewsTo l (b + 1) = viewsTo l m ++ [viewN (b : Int)]) := by
  obtain ⟨h1, h2, h3⟩ := bestL_spec l ((m : Int) - 1) 5000
  generalize bestL l ((m : Int) - 1) 5000 = x at *
  rcases h1 with h1 | ⟨r, hr, h4, h5, h6⟩
  · refine .inl ⟨h1, viewsTo_skip hm fun n hn1 hn2 => ?_⟩
    rw [Bool.eq_false_iff]
    intro hp
    obtain ⟨r, hr, h4, h5⟩ := presL_iff.1 hp
    have := h3 r hr h4 (by omega)
    omega
  · have hn := nameV_lt (hv r hr)
    obtain ⟨b, rfl⟩ : ∃ b : Nat, x = (b : Int) := ⟨x.toNat, by omega⟩
    refine .inr ⟨b, by omega, by omega, rfl, ?_⟩
    rw [viewsTo_succ, presL_iff.2 ⟨r, hr, h4, h5⟩, if_pos rfl, viewsTo_skip (m := m) (by omega) fun n hn1 hn2 => ?_]
    rw [Bool.eq_false_iff]
    intro hp
    obtain ⟨r', hr', h7, h8⟩ := presL_iff.1 hp
    have := h3 r' hr' h7 (by omega)
    omega
theorem viewsTo_len (l : List PRec) (m : Nat) : (viewsTo l m).length ≤ m := by
  unfold viewsTo
  rw [List.length_map]
  have := List.length_filter_le (presL l) (List.range m)
  rw [List.length_range] at this
  exact this
def lastN (x : AV) : Nat := match x with | .v (.int _ n) => (n + 1).toNat | _ => 0
@[simp] theorem lastN_int (k : IntKind) (n : Int) : lastN (.v (.int k n)) = (n + 1).toNat := rfl
def VwI (l : List PRec) (t : Nat → AV) (h : Nat → Option (List AV)) : Prop := ∃ (m : Nat) (tag : Tag), t 0 = .sl .no (eRs l) ∧ t 3 = .sl tag (eVs (viewsTo l m)) ∧ appOK tag 24 2 ∧ t 4 = eI ((m : Int) - 1) ∧ m ≤ 4096
def VbI (l : List PRec) (m : Nat) (tag : Tag) (t : Nat → AV) (h : Nat → Option (List AV)) : Prop := ∃ k : Nat, t 0 = .sl .no (eRs l) ∧ t 3 = .sl tag (eVs (viewsTo l m)) ∧ t 4 = eI ((m : Int) - 1) ∧ t 5 = eI (bestL (l.take k) ((m : Int) - 1) 5000) ∧ t 12 = .sl .no (eRs l) ∧ t 13 = eI l.length ∧ t 14 = eI k ∧ k ≤ l.length
def VbM (l : List PRec) (m : Nat) (tag : Tag) (t : Nat → AV) (h : Nat → Option (List AV)) : Prop := t 0 = .sl .no (eRs l) ∧ t 3 = .sl tag (eVs (viewsTo l m)) ∧ t 4 = eI ((m : Int) - 1) ∧ t 5 = eI (bestL l ((m : Int) - 1) 5000)
theorem views12_spec (l : List PRec) (hv : ∀ r ∈ l, rightV r.view = true) (hl : l.length ≤ 1000000000) : ASpec Tryz.prog 77 [.sl .no (eRs l)] (fun r => ∃ tag, r = .sl tag (eVs (viewsTo l 4096))) := by
  refine ASpec.of_awp Tryz.func77 (by kernel_rfl) rfl (by rw [Tryz.results77]) Tryz.ntmps77 ?_
  simp -implicitDefEqProofs
  refine loopK.intro (VwI l) (fun t => 4096 - lastN (t 4)) ?_ ?_
  · exact ⟨0, _, by simp, by simp [viewsTo, eVs]; rfl, by simp, by simp, by omega⟩
  rintro t hh ⟨m, tag, g0, g3, gt, g4, hm⟩
  simp -implicitDefEqProofs [g0]
  intro _
  refine loopK.post (VbI l m tag) (fun t => l.length - natOf (t 14)) (VbM l m tag) ?_ ?_ ?_
  · exact ⟨0, by simp [g0], by simp [g3], by simp [g4], by simp [bestL], by simp, by simp, by simp, by omega⟩
  · rintro t hh ⟨k, q0, q3, q4, q5, q12, q13, q14, hk⟩
    by_cases hlt : k < l.length
    · have hlt' : (k : Int) < (l.length : Int) := by omega
      have hw : IntKind.i64.wrap ((k : Int) + 1) = ((k + 1 : Nat) : Int) := by rw [w64 (by omega) (by omega)]; omega
      obtain ⟨r, hx⟩ : ∃ r, l[k]? = some r := ⟨l[k], by simp [hlt]⟩
      have hst := bestL_step (m := (m : Int) - 1) hx
      have hrv := hv r (List.mem_of_getElem? hx)
      have hnm := name4_spec r.view hrv
      generalize bestL (l.take k) ((m : Int) - 1) 5000 = bb at *
      simp -implicitDefEqProofs [q12, q13, q14, hlt', hx, eRc]
      refine allocK.intro (fun b1 hb1 => ?_)
      simp -implicitDefEqProofs
      refine CallK.with hnm (by simp [eV]) ?_
      simp -implicitDefEqProofs
      unfold bestF relR at hst
      by_cases h1 : r.kind = 1 ∨ r.kind = 2 ∨ r.kind = 5
      · by_cases h2 : (m : Int) - 1 < nameV r.view
        · by_cases h3 : nameV r.view < bb
          · rw [if_pos ⟨by simpa using h1, h2, h3⟩] at hst
            rcases h1 with h1 | h1 | h1
            · simp -implicitDefEqProofs [h1, q4, q5, h2, h3, q14, hw]
              exact ⟨⟨k + 1, by simp [q0], by simp [q3], by simp [q4], by simp [hst], by simp [q12], by simp [q13], by simp, by omega⟩, by omega⟩
            · simp -implicitDefEqProofs [h1, q4, q5, h2, h3, q14, hw]
              exact ⟨⟨k + 1, by simp [q0], by simp [q3], by simp [q4], by simp [hst], by simp [q12], by simp [q13], by simp, by omega⟩, by omega⟩
            · simp -implicitDefEqProofs [h1, q4, q5, h2, h3, q14, hw]
              exact ⟨⟨k + 1, by simp [q0], by simp [q3], by simp [q4], by simp [hst], by simp [q12], by simp [q13], by simp, by omega⟩, by omega⟩
          · rw [if_neg (fun h => h3 h.2.2)] at hst
            rcases h1 with h1 | h1 | h1
            · simp -implicitDefEqProofs [h1, q4, q5, h2, h3, q14, hw]
              exact ⟨⟨k + 1, by simp [q0], by simp [q3], by simp [q4], by simp [hst, q5], by simp [q12], by simp [q13], by simp, by omega⟩, by omega⟩
            · simp -implicitDefEqProofs [h1, q4, q5, h2, h3, q14, hw]
              exact ⟨⟨k + 1, by simp [q0], by simp [q3], by simp [q4], by simp [hst, q5], by simp [q12], by simp [q13], by simp, by omega⟩, by omega⟩
            · simp -implicitDefEqProofs [h1, q4, q5, h2, h3, q14, hw]
              exact ⟨⟨k + 1, by simp [q0], by simp [q3], by simp [q4], by simp [hst, q5], by simp [q12], by simp [q13], by simp, by omega⟩, by omega⟩
        · rw [if_neg (fun h => h2 h.2.1)] at hst
          rcases h1 with h1 | h1 | h1
          · simp -implicitDefEqProofs [h1, q4, q5, h2, q14, hw]
            exact ⟨⟨k + 1, by simp [q0], by simp [q3], by simp [q4], by simp [hst, q5], by simp [q12], by simp [q13], by simp, by omega⟩, by omega⟩
          · simp -implicitDefEqProofs [h1, q4, q5, h2, q14, hw]
            exact ⟨⟨k + 1, by simp [q0], by simp [q3], by simp [q4], by simp [hst, q5], by simp [q12], by simp [q13], by simp, by omega⟩, by omega⟩
          · simp -implicitDefEqProofs [h1, q4, q5, h2, q14, hw]
            exact ⟨⟨k + 1, by simp [q0], by simp [q3], by simp [q4], by simp [hst, q5], by simp [q12], by simp [q13], by simp, by omega⟩, by omega⟩
      · rw [if_neg (fun h => h1 (by simpa using h.1))] at hst
        have h11 : ¬ r.kind = 1 := fun h => h1 (.inl h)
        have h12 : ¬ r.kind = 2 := fun h => h1 (.inr (.inl h))
        have h15 : ¬ r.kind = 5 := fun h => h1 (.inr (.inr h))
        simp -implicitDefEqProofs [h11, h12, h15, q4, q5, q14, hw]
        exact ⟨⟨k + 1, by simp [q0], by simp [q3], by simp [q4], by simp [hst, q5], by simp [q12], by simp [q13], by simp, by omega⟩, by omega⟩
    · have hlt' : ¬ (k : Int) < (l.length : Int) := by omega
      rw [List.take_of_length_le (by omega)] at q5
      simp -implicitDefEqProofs [q13, q14, hlt']
      exact ⟨by simp [q0], by simp [q3], by simp [q4], by simp [q5]⟩
  rintro t hh ⟨q0, q3, q4, q5⟩
  rcases best_next hv hm with ⟨e1, e2⟩ | ⟨b, hb1, hb2, e1, e2⟩
  · rw [e1] at q5
    simp -implicitDefEqProofs [q5, q3, e2]
  · rw [e1] at q5
    have hne : ¬ (b : Int) = 5000 := by omega
    have hnd := named4_spec (b : Int)
    have hvl := viewsTo_len l m
    simp -implicitDefEqProofs [q5, hne]
    rw [namedA, if_pos (by omega)] at hnd
    have hvn : viewN (b : Int) = ⟨(b : Int) / 64, (b : Int) % 64⟩ := by unfold viewN; rw [if_pos (by omega)]
    refine CallK.eq hnd ?_
    simp -implicitDefEqProofs [eV]
    refine allocK.intro (fun b1 hb1 => ?_)
    simp -implicitDefEqProofs [q3, gt]
    refine ⟨by omega, ⟨b + 1, appTag tag 24 2 [eV (viewN (b : Int))], by simp [q0], ?_, by simp [gt], by simp, by omega⟩, ?_⟩
    · simp [e2, eVs, eV, hvn]
    · simp [g4]; omega
end Go.Proofs.YtjbbfiagijjdoaaGreat

/- Plain: the document's state behind records is the same. No condition. -/
set_option linter.unusedSimpArgs false
set_option linter.unusedVariables false
set_option maxRecDepth 10000
namespace Go.Proofs.YtjbbfiagijjdoaaGreat
open Go Go.Rw Go.Proofs

def heldL (v : PView) (l : List PRec) : PView := l.foldl (fun h r => if r.kind = 3 ∧ withinV h r.view = true then r.view else h) v
def lastL (l : List PRec) : Int := l.foldl (fun n r => if r.kind = 4 ∧ n < r.n then r.n else n) 0
def incL (l : List PRec) : Int := l.foldl (fun n r => if r.kind = 6 ∧ n < r.n then r.n else n) 0
def bookV (l : List PRec) (v : PView) : Option PVB := if bookL l v = [] then none else some ⟨v, bookL l v⟩
def cellsV (l : List PRec) (v : PView) : Option PVC := if cellsL l v = [] then none else some ⟨v, cellsL l v⟩
def intentV (l : List PRec) (v : PView) : Option PVI := (intentL l v).map fun c => ⟨v, c⟩
def stateL (v : PView) (l : List PRec) : PState := ⟨(viewsTo l 4096).filterMap (bookV l), (viewsTo l 4096).filterMap (cellsV l), (viewsTo l 4096).filterMap (intentV l), heldL v l, incL l, lastL l⟩
theorem heldL_step {v : PView} {l : List PRec} {k : Nat} {r : PRec} (h : l[k]? = some r) : heldL v (l.take (k + 1)) = if r.kind = 3 ∧ withinV (heldL v (l.take k)) r.view = true then r.view else heldL v (l.take k) := by
  unfold heldL
  rw [List.take_add_one, h, List.foldl_append]; rfl
theorem lastL_step {l : List PRec} {k : Nat} {r : PRec} (h : l[k]? = some r) : lastL (l.take (k + 1)) = if r.kind = 4 ∧ lastL (l.take k) < r.n then r.n else lastL (l.take k) := by
  unfold lastL
  rw [List.take_add_one, h, List.foldl_append]; rfl
theorem incL_step {l : List PRec} {k : Nat} {r : PRec} (h : l[k]? = some r) : incL (l.take (k + 1)) = if r.kind = 6 ∧ incL (l.take k) < r.n then r.n else incL (l.take k) := by
  unfold incL
  rw [List.take_add_one, h, List.foldl_append]; rfl
theorem intentL_step {v : PView} {l : List PRec} {k : Nat} {r : PRec} (h : l[k]? = some r) : intentL (l.take (k + 1)) v = if r.kind = 5 ∧ r.view = v ∧ intentL (l.take k) v = none then some r.cell.change else intentL (l.take k) v := by
  unfold intentL
  rw [List.take_add_one, h, List.find?_append]
  cases hf : (l.take k).find? (fun r => decide (r.kind = 5 ∧ r.view = v)) with
  | some x => simp
  | none =>
    by_cases h1 : r.kind = 5 ∧ r.view = v
    · simp [h1]
    · rw [if_neg (fun h => h1 ⟨h.1, h.2.1⟩)]
      simp [h1]
theorem merge_ne {a : List PEntry} {e : PEntry} (ha : okB a) (he : okB [e]) : ¬ mergeE a [e] = [] := by
  intro h
  have h1 := findE_merge ha he e.key
  rw [h, findE_one, if_pos rfl] at h1
  have h2 := newer_rightT (findE a e.key) e
  rw [← h1] at h2
  have h3 := (he.2 e (by simp)).2.2.2
  rw [lessT_no] at h2
  have h4 : (findE ([] : List PEntry) e.key).tag = ⟨0, 0⟩ := rfl
  rw [h4] at h2
  simp only at h2
  omega
theorem mergeC_ne {a : List PCell} {c : PCell} (ha : okCs a) (hc : okCs [c]) : ¬ mergeC a [c] = [] := by
  intro h
  have h1 := ofC_merge ha hc c.node
  rw [h, ofC_one, if_pos rfl] at h1
  split at h1
  · rename_i h2
    rw [← h1] at h2; simp [ofC] at h2
  · simp [ofC] at h1
/-- what the state tells is what all records tell -/
structure TellsL (v : PView) (l : List PRec) (s : PState) : Prop where
  book : ∀ u, rightV u = true → bookS s u = bookL l u
  cells : ∀ u, rightV u = true → cellsS s u = cellsL l u
  intent : ∀ u, rightV u = true → intentS s u = intentL l u
  held : s.held = heldL v l
  last : s.last = lastL l
  inc : s.inc = incL l
  bne : ∀ x ∈ s.books, ¬ x.book = []
  cne : ∀ x ∈ s.cells, ¬ x.cells = []
theorem tells_new (v : PView) : TellsL v [] (newS v) :=
  ⟨fun u hu => rfl, fun u hu => rfl, fun u hu => rfl, rfl, rfl, rfl, fun x hx => by simp [newS] at hx, fun x hx => by simp [newS] at hx⟩
theorem tells_fold {v : PView} (hv : rightV v = true) {l : List PRec} (hl : ∀ r ∈ l, rightR r = true) (k : Nat) (hk : k ≤ l.length) : TellsL v (l.take k) (foldS v (l.take k)) := by
  induction k with
  | zero => exact tells_new v
  | succ k ih =>
    have hx : l[k]? = some l[k] := List.getElem?_eq_getElem (by omega)
    have T := ih (by omega)
    have O := okT_fold hv hl k (by omega)
    have hr := hl _ (List.mem_of_getElem? hx)
    have hn := okN_apply O.toOkN hr
    generalize l[k] = r at *
    have hx' := hx
    rw [foldS_step hx]
    generalize foldS v (l.take k) = s at *
    have R := rightR_of hr
    refine ⟨fun u hu => ?_, fun u hu => ?_, fun u hu => ?_, ?_, ?_, ?_, fun x hx => ?_, fun x hx => ?_⟩
    · rw [bookS_apply O.toOkN hr hu, bookL_step hx', ← T.book u hu]
      split
      · rename_i h
        rw [mergeD_eq (O.bookOk u).right (R.entry h.1).right]
      · rfl
    · rw [cellsS_apply O.toOkN hr hu, cellsL_step hx', ← T.cells u hu]
    · rw [intentS_apply O.toOkN hr hu, intentL_step hx', ← T.intent u hu]
    · rw [apply_held, heldL_step hx', ← T.held]
    · rw [apply_last, lastL_step hx', ← T.last]
      by_cases h4 : r.kind = 4
      · rw [if_pos h4]
        by_cases h5 : s.last < r.n
        · rw [if_pos ⟨h4, h5⟩]; omega
        · rw [if_neg (fun h => h5 h.2)]; omega
      · rw [if_neg h4, if_neg (fun h => h4 h.1)]
    · rw [apply_inc, incL_step hx', ← T.inc]
      by_cases h4 : r.kind = 6
      · rw [if_pos h4]
        by_cases h5 : s.inc < r.n
        · rw [if_pos ⟨h4, h5⟩]; omega
        · rw [if_neg (fun h => h5 h.2)]; omega
      · rw [if_neg h4, if_neg (fun h => h4 h.1)]
    · rw [look_mem hn.sb, apply_books] at hx
      split at hx
      · rename_i h
        obtain rfl := Option.some.inj hx
        exact merge_ne (O.bookOk r.view) (R.entry h.1)
      · exact T.bne x (look_some hx).1
    · rw [look_mem hn.sc, apply_cells] at hx
      split at hx
      · rename_i h
        obtain rfl := Option.some.inj hx
        show ¬ mergeS _ _ = []
        rw [mergeS_eq (O.cells r.view) (okCs_one (right_cell hr).2)]
        exact mergeC_ne (O.cells r.view) (okCs_one (right_cell hr).2)
      · exact T.cne x (look_some hx).1
section
variable {α : Type} {key : α → Int}
theorem sort_ext' {l m : List α} (hl : sortK key l) (hm : sortK key m) (h : ∀ x, x ∈ l ↔ x ∈ m) : l = m := by
  have hp : l.Perm m := (List.perm_ext_iff_of_nodup (nodupK hl) (nodupK hm)).2 h
  refine List.Perm.eq_of_pairwise (le := fun x y => key x ≤ key y) (fun x y hx hy h1 h2 => ?_) (hl.imp fun h => by omega) (hm.imp fun h => by omega) hp
  exact key_inj hl hx ((hp.mem_iff).2 hy) (by omega)
end
theorem views_sorted (l : List PRec) : (viewsTo l 4096).Pairwise fun a b => nameV a < nameV b := by
  unfold viewsTo
  rw [List.pairwise_map]
  have h1 : ((List.range 4096).filter (presL l)).Pairwise (· < ·) := List.Pairwise.filter _ List.pairwise_lt_range
  refine List.Pairwise.imp_of_mem (fun {a b} ha hb hab => ?_) h1
  have h2 := List.mem_range.1 (List.mem_filter.1 ha).1
  have h3 := List.mem_range.1 (List.mem_filter.1 hb).1
  rw [nameV_view (by omega), nameV_view (by omega)]
  omega
theorem views_mem {l : List PRec} (hl : ∀ r ∈ l, rightV r.view = true) {u : PView} : u ∈ viewsTo l 4096 ↔ ∃ r ∈ l, relR r = true ∧ r.view = u := by
  unfold viewsTo
  rw [List.mem_map]
  constructor
  · rintro ⟨n, hn, rfl⟩
    obtain ⟨h1, h2⟩ := List.mem_filter.1 hn
    obtain ⟨r, hr, h3, h4⟩ := presL_iff.1 h2
    refine ⟨r, hr, h3, ?_⟩
    rw [← h4, viewN_name (hl r hr)]
  · rintro ⟨r, hr, h3, rfl⟩
    have h5 := nameV_lt (hl r hr)
    refine ⟨(nameV r.view).toNat, List.mem_filter.2 ⟨List.mem_range.2 (by omega), presL_iff.2 ⟨r, hr, h3, by omega⟩⟩, ?_⟩
    rw [show (((nameV r.view).toNat : Nat) : Int) = nameV r.view by omega, viewN_name (hl r hr)]
theorem bookL_ne {l : List PRec} {u : PView} (h : ¬ bookL l u = []) : ∃ r ∈ l, relR r = true ∧ r.view = u := by
  refine Classical.byContradiction fun hno => h ?_
  unfold bookL
  have : ∀ (l' : List PRec) (b : List PEntry), (∀ r ∈ l', r ∈ l) → l'.foldl (fun b r => if r.kind = 1 ∧ r.view = u then mergeD b [r.entry] else b) b = b := by
    intro l'
    induction l' with
    | nil => intro b _; rfl
    | cons r l' ih =>
      intro b hsub
      rw [List.foldl_cons, if_neg, ih b (fun x hx => hsub x (by simp [hx]))]
      rintro ⟨h1, h2⟩
      exact hno ⟨r, hsub r (by simp), by simp [relR, h1], h2⟩
  exact this l [] fun r hr => hr
theorem cellsL_ne {l : List PRec} {u : PView} (h : ¬ cellsL l u = []) : ∃ r ∈ l, relR r = true ∧ r.view = u := by
  refine Classical.byContradiction fun hno => h ?_
  unfold cellsL
  have : ∀ (l' : List PRec) (b : List PCell), (∀ r ∈ l', r ∈ l) → l'.foldl (fun b r => if r.kind = 2 ∧ r.view = u then mergeC b [r.cell] else b) b = b := by
    intro l'
    induction l' with
    | nil => intro b _; rfl
    | cons r l' ih =>
      intro b hsub
      rw [List.foldl_cons, if_neg, ih b (fun x hx => hsub x (by simp [hx]))]
      rintro ⟨h1, h2⟩
      exact hno ⟨r, hsub r (by simp), by simp [relR, h1], h2⟩
  exact this l [] fun r hr => hr
theorem intentL_ne {l : List PRec} {u c : PView} (h : intentL l u = some c) : ∃ r ∈ l, relR r = true ∧ r.view = u := by
  unfold intentL at h
  cases hf : l.find? (fun r => decide (r.kind = 5 ∧ r.view = u)) with
  | none => rw [hf] at h; simp at h
  | some r =>
    have h1 := List.find?_some hf
    simp at h1
    exact ⟨r, List.mem_of_find?_eq_some hf, by simp [relR, h1.1], h1.2⟩
theorem state_eq {v : PView} (hv : rightV v = true) {l : List PRec} (hl : ∀ r ∈ l, rightR r = true) : stateL v l = foldS v l := by
  have T := tells_fold hv hl l.length (Nat.le_refl _)
  have O := okT_fold hv hl l.length (Nat.le_refl _)
  rw [List.take_length] at T O
  have hlv : ∀ r ∈ l, rightV r.view = true := fun r hr => (right_cell (hl r hr)).1
  have hvr : ∀ u ∈ viewsTo l 4096, rightV u = true := fun u hu => by
    obtain ⟨r, hr, _, rfl⟩ := (views_mem hlv).1 hu
    exact hlv r hr
  generalize foldS v l = s at *
  obtain ⟨bs, cs, is, h, i, a⟩ := s
  have e1 : (viewsTo l 4096).filterMap (bookV l) = bs := by
    refine sort_ext' (key := keyVB) ?_ O.sb fun x => ?_
    · unfold sortK
      rw [List.pairwise_filterMap]
      refine (views_sorted l).imp fun {u w} h x hx y hy => ?_
      unfold bookV at hx hy
      split at hx <;> split at hy <;> simp at hx hy
      subst hx; subst hy
      exact h
    · rw [List.mem_filterMap]
      constructor
      · rintro ⟨u, hu, hx⟩
        unfold bookV at hx
        split at hx
        · simp at hx
        · rename_i hne
          obtain rfl := Option.some.inj hx
          have h1 := T.book u (hvr u hu)
          rw [bookS_look O.sb] at h1
          cases hk : lookK keyVB bs (nameV u) with
          | none => simp only [hk] at h1; exact absurd h1.symm hne
          | some y =>
            simp only [hk, Option.map_some, Option.getD_some] at h1
            obtain ⟨h2, h3⟩ := look_some hk
            have h4 : y.view = u := name_inj (O.rb y h2) (hvr u hu) h3
            have : y = ⟨u, bookL l u⟩ := by rw [← h1, ← h4]
            rw [← this]; exact h2
      · intro hx
        have h1 := T.book x.view (O.rb x hx)
        rw [bookS_look O.sb, show nameV x.view = keyVB x from rfl, (look_mem O.sb).1 hx] at h1
        simp only [Option.map_some, Option.getD_some] at h1
        have hne : ¬ bookL l x.view = [] := by rw [← h1]; exact T.bne x hx
        refine ⟨x.view, (views_mem hlv).2 (bookL_ne hne), ?_⟩
        unfold bookV
        rw [if_neg hne, ← h1]
  have e2 : (viewsTo l 4096).filterMap (cellsV l) = cs := by
    refine sort_ext' (key := keyVC) ?_ O.sc fun x => ?_
    · unfold sortK
      rw [List.pairwise_filterMap]
      refine (views_sorted l).imp fun {u w} h x hx y hy => ?_
      unfold cellsV at hx hy
      split at hx <;> split at hy <;> simp at hx hy
      subst hx; subst hy
      exact h
    · rw [List.mem_filterMap]
      constructor
      · rintro ⟨u, hu, hx⟩
        unfold cellsV at hx
        split at hx
        · simp at hx
        · rename_i hne
          obtain rfl := Option.some.inj hx
          have h1 := T.cells u (hvr u hu)
          rw [cellsS_look O.sc] at h1
          cases hk : lookK keyVC cs (nameV u) with
          | none => simp only [hk] at h1; exact absurd h1.symm hne
          | some y =>
            simp only [hk, Option.map_some, Option.getD_some] at h1
            obtain ⟨h2, h3⟩ := look_some hk
            have h4 : y.view = u := name_inj (O.rc y h2) (hvr u hu) h3
            have : y = ⟨u, cellsL l u⟩ := by rw [← h1, ← h4]
            rw [← this]; exact h2
      · intro hx
        have h1 := T.cells x.view (O.rc x hx)
        rw [cellsS_look O.sc, show nameV x.view = keyVC x from rfl, (look_mem O.sc).1 hx] at h1
        simp only [Option.map_some, Option.getD_some] at h1
        have hne : ¬ cellsL l x.view = [] := by rw [← h1]; exact T.cne x hx
        refine ⟨x.view, (views_mem hlv).2 (cellsL_ne hne), ?_⟩
        unfold cellsV
        rw [if_neg hne, ← h1]
  have e3 : (viewsTo l 4096).filterMap (intentV l) = is := by
    refine sort_ext' (key := keyVI) ?_ O.si fun x => ?_
    · unfold sortK
      rw [List.pairwise_filterMap]
      refine (views_sorted l).imp fun {u w} h x hx y hy => ?_
      unfold intentV at hx hy
      simp only [Option.map_eq_some_iff] at hx hy
      obtain ⟨_, _, rfl⟩ := hx
      obtain ⟨_, _, rfl⟩ := hy
      exact h
    · rw [List.mem_filterMap]
      constructor
      · rintro ⟨u, hu, hx⟩
        unfold intentV at hx
        rw [Option.map_eq_some_iff] at hx
        obtain ⟨c, hc, rfl⟩ := hx
        have h1 := T.intent u (hvr u hu)
        rw [intentS_look O.si, hc, Option.map_eq_some_iff] at h1
        obtain ⟨y, hk, h1⟩ := h1
        obtain ⟨h2, h3⟩ := look_some hk
        have h4 : y.view = u := name_inj (O.ri y h2) (hvr u hu) h3
        have : y = ⟨u, c⟩ := by rw [← h1, ← h4]
        rw [← this]; exact h2
      · intro hx
        have h1 := T.intent x.view (O.ri x hx)
        rw [intentS_look O.si, show nameV x.view = keyVI x from rfl, (look_mem O.si).1 hx] at h1
        simp only [Option.map_some] at h1
        refine ⟨x.view, (views_mem hlv).2 (intentL_ne h1.symm), ?_⟩
        unfold intentV
        rw [← h1]
        rfl
  have e4 := T.held
  have e5 := T.last
  have e6 := T.inc
  simp only at e4 e5 e6
  unfold stateL
  rw [e1, e2, e3, ← e4, ← e5, ← e6]
end Go.Proofs.YtjbbfiagijjdoaaGreat

/- Contracts: the document's intents and its state behind records. No condition. -/
set_option linter.unusedSimpArgs false
set_option linter.unusedVariables false
set_option maxRecDepth 10000
namespace Go.Proofs.YtjbbfiagijjdoaaGreat
open Go Go.Rw Go.Proofs
-- a goal is never to be run by the elaborator
attribute [local irreducible] awp aops aop aopsE aeff

def intentA' (o : Option PView) : AV := .tup [.agg (eV (o.getD ⟨0, 0⟩)), .v (.bool o.isSome)]
def InI (l : List PRec) (v : PView) (b1 b2 : Nat) (t : Nat → AV) (h : Nat → Option (List AV)) : Prop := ∃ k : Nat, t 3 = .ptr b1 0 ∧ t 4 = .ptr b2 0 ∧ t 8 = .sl .no (eRs l) ∧ t 9 = eI l.length ∧ t 10 = eI k ∧ k ≤ l.length ∧ h b1 = some (eV v) ∧ (∃ z, h b2 = some z ∧ z.length = 2) ∧ intentL (l.take k) v = none
def InM (l : List PRec) (v : PView) (b2 : Nat) (t : Nat → AV) (h : Nat → Option (List AV)) : Prop := t 4 = .ptr b2 0 ∧ (∃ z, h b2 = some z ∧ z.length = 2) ∧ intentL l v = none
theorem intentL_hit {l : List PRec} {k : Nat} {r : PRec} {v : PView} (hx : l[k]? = some r) (hn : intentL (l.take k) v = none) (h1 : r.kind = 5) (h2 : r.view = v) : intentL l v = some r.cell.change := by
  have hs := intentL_step (v := v) hx
  rw [if_pos ⟨h1, h2, hn⟩] at hs
  have e : l = l.take (k + 1) ++ l.drop (k + 1) := (List.take_append_drop _ _).symm
  unfold intentL at hs ⊢
  rw [e, List.find?_append]
  cases hf : (l.take (k + 1)).find? (fun r => decide (r.kind = 5 ∧ r.view = v)) with
  | none => rw [hf] at hs; simp at hs
  | some x => rw [hf] at hs; simpa using hs
theorem intent12_spec (l : List PRec) (v : PView) (hl : l.length ≤ 1000000000) : ASpec Tryz.prog 32 [.sl .no (eRs l), .agg (eV v)] (· = intentA' (intentL l v)) := by
  refine ASpec.of_awp Tryz.func32 (by kernel_rfl) rfl (by rw [Tryz.results32]) Tryz.ntmps32 ?_
  simp -implicitDefEqProofs [eV]
  refine allocK.intro (fun b1 hb1 => ?_)
  simp -implicitDefEqProofs
  refine allocK.intro (fun b2 hb2 => ?_)
  have n12 : ¬ b1 = b2 := by rintro rfl; simp at hb2
  have n21 : ¬ b2 = b1 := fun h => n12 h.symm
  simp -implicitDefEqProofs [n12, n21]
  intro _
  refine loopK.post (InI l v b1 b2) (fun t => l.length - natOf (t 10)) (InM l v b2) ?_ ?_ ?_
  · exact ⟨0, by simp, by simp, by simp, by simp, by simp, by omega, by simp [n12, eV], ⟨_, by simp; rfl, rfl⟩, by simp [intentL]⟩
  · rintro t hh ⟨k, g3, g4, g8, g9, g10, hk, e1, ⟨z, e2, hz⟩, hn⟩
    by_cases hlt : k < l.length
    · have hlt' : (k : Int) < (l.length : Int) := by omega
      have hw : IntKind.i64.wrap ((k : Int) + 1) = ((k + 1 : Nat) : Int) := by rw [w64 (by omega) (by omega)]; omega
      obtain ⟨r, hx⟩ : ∃ r, l[k]? = some r := ⟨l[k], by simp [hlt]⟩
      have hst := intentL_step (v := v) hx
      simp -implicitDefEqProofs [g8, g9, g10, hlt', hx, eRc]
      refine allocK.intro (fun b3 hb3 => ?_)
      have n13 : ¬ b1 = b3 := by rintro rfl; rw [e1] at hb3; simp at hb3
      have n31 : ¬ b3 = b1 := fun h => n13 h.symm
      have n23 : ¬ b2 = b3 := by rintro rfl; rw [e2] at hb3; simp at hb3
      have n32 : ¬ b3 = b2 := fun h => n23 h.symm
      have e1' := e1
      rw [eV] at e1'
      by_cases h1 : r.kind = 5
      · by_cases h2 : r.view.add = v.add
        · by_cases h3 : r.view.del = v.del
          · have hr := intentL_hit hx hn h1 (view_eq.2 ⟨h2, h3⟩)
            rw [hr]
            simp -implicitDefEqProofs [g3, g4, e1', e2, hz, n12, n21, n13, n31, n23, n32, h1, h2, h3, intentA', eV]
          · rw [if_neg (fun h => h3 (view_eq.1 h.2.1).2), hn] at hst
            have h3' : (r.view.del == v.del) = false := by simpa using h3
            simp -implicitDefEqProofs [g3, e1', n13, n31, h1, h2, h3, h3', g10, hw]
            exact ⟨⟨k + 1, by simp [g3], by simp [g4], by simp [g8], by simp [g9], by simp, by omega, by simp [n13, n31, e1], ⟨z, by simp [n23, e2], hz⟩, hst⟩, by omega⟩
        · rw [if_neg (fun h => h2 (view_eq.1 h.2.1).1), hn] at hst
          have h2' : (r.view.add == v.add) = false := by simpa using h2
          simp -implicitDefEqProofs [g3, e1', n13, n31, h1, h2, h2', g10, hw]
          exact ⟨⟨k + 1, by simp [g3], by simp [g4], by simp [g8], by simp [g9], by simp, by omega, by simp [n13, n31, e1], ⟨z, by simp [n23, e2], hz⟩, hst⟩, by omega⟩
      · rw [if_neg (fun h => h1 h.1), hn] at hst
        simp -implicitDefEqProofs [g3, n13, n31, h1, g10, hw]
        exact ⟨⟨k + 1, by simp [g3], by simp [g4], by simp [g8], by simp [g9], by simp, by omega, by simp [n13, n31, e1], ⟨z, by simp [n23, e2], hz⟩, hst⟩, by omega⟩
    · have hlt' : ¬ (k : Int) < (l.length : Int) := by omega
      rw [List.take_of_length_le (by omega)] at hn
      simp -implicitDefEqProofs [g9, g10, hlt']
      exact ⟨by simp [g4], ⟨z, e2, hz⟩, hn⟩
  rintro t hh ⟨g4, ⟨z, e2, hz⟩, hn⟩
  rw [hn]
  simp -implicitDefEqProofs [g4, e2, hz, intentA', eV]
def OfB (h i a : Int × Int) (b5 : Nat) : Prop := True
end Go.Proofs.YtjbbfiagijjdoaaGreat

/- Contract: the document's state behind records. No condition. -/
set_option linter.unusedSimpArgs false
set_option linter.unusedVariables false
set_option maxRecDepth 10000
namespace Go.Proofs.YtjbbfiagijjdoaaGreat
open Go Go.Rw Go.Proofs
-- a goal is never to be run by the elaborator
attribute [local irreducible] awp aops aop aopsE aeff

theorem CallQ.take2 {P : Program} {g : FuncId} {args args' : List AV} {K R : AV → Prop} {x : AV} (h : ASpec P g args' R) (ha : args = args') (hr : ∀ r, R r → dead1 r = x) (hk : K x) : @CallQ P g args ⟨K⟩ := by
  subst ha
  exact .of h hr hk
def eSt3 (t1 t2 t3 : Tag) (s : PState) : List AV := [.sl t1 (rowsVB s.books), .sl t2 (rowsVC s.cells), .sl t3 (rowsVI s.intents), eI s.held.add, eI s.held.del, eI s.inc, eI s.last]
def headL (v : PView) (l : List PRec) : PState := ⟨[], [], [], heldL v l, incL l, lastL l⟩
def OfI1 (v : PView) (l : List PRec) (b2 b3 : Nat) (t : Nat → AV) (h : Nat → Option (List AV)) : Prop := ∃ k : Nat, t 1 = .sl .no (eRs l) ∧ t 4 = .ptr b2 0 ∧ t 5 = .ptr b3 0 ∧ t 16 = .sl .no (eRs l) ∧ t 17 = eI l.length ∧ t 18 = eI k ∧ k ≤ l.length ∧ (∃ z, h b2 = some z ∧ z.length = 7) ∧ h b3 = some (eSt3 .nil .nil .nil (headL v (l.take k)))
def OfM1 (v : PView) (l : List PRec) (b2 b3 : Nat) (t : Nat → AV) (h : Nat → Option (List AV)) : Prop := t 1 = .sl .no (eRs l) ∧ t 4 = .ptr b2 0 ∧ t 5 = .ptr b3 0 ∧ (∃ z, h b2 = some z ∧ z.length = 7) ∧ h b3 = some (eSt3 .nil .nil .nil (headL v l))
def partL (v : PView) (l : List PRec) (vs : List PView) : PState := ⟨vs.filterMap (bookV l), vs.filterMap (cellsV l), vs.filterMap (intentV l), heldL v l, incL l, lastL l⟩
def OfI2 (v : PView) (l : List PRec) (vs : List PView) (b2 b3 : Nat) (t : Nat → AV) (h : Nat → Option (List AV)) : Prop := ∃ (k : Nat) (t1 t2 t3 tv : Tag), t 1 = .sl .no (eRs l) ∧ t 4 = .ptr b2 0 ∧ t 5 = .ptr b3 0 ∧ t 63 = .sl tv (eVs vs) ∧ t 64 = eI vs.length ∧ t 65 = eI k ∧ k ≤ vs.length ∧ (∃ z, h b2 = some z ∧ z.length = 7) ∧ h b3 = some (eSt3 t1 t2 t3 (partL v l (vs.take k))) ∧ appOK t1 89 3 ∧ appOK t2 91 3 ∧ appOK t3 93 4
def OfM2 (v : PView) (l : List PRec) (vs : List PView) (b2 b3 : Nat) (t : Nat → AV) (h : Nat → Option (List AV)) : Prop := ∃ (t1 t2 t3 : Tag), t 4 = .ptr b2 0 ∧ t 5 = .ptr b3 0 ∧ (∃ z, h b2 = some z ∧ z.length = 7) ∧ h b3 = some (eSt3 t1 t2 t3 (partL v l vs))
theorem of12_spec (v : PView) (l : List PRec) (hv : rightV v = true) (hl : ∀ r ∈ l, rightR r = true) (hn : l.length ≤ 1000000000) : ASpec Tryz.prog 24 [.agg (eV v), .sl .no (eRs l)] (· = .agg (eSt (stateL v l))) := by
  refine ASpec.of_awp Tryz.func24 (by kernel_rfl) rfl (by rw [Tryz.results24]) Tryz.ntmps24 ?_
  simp -implicitDefEqProofs [eV]
  refine allocK.intro (fun b1 hb1 => ?_)
  simp -implicitDefEqProofs
  refine allocK.intro (fun b2 hb2 => ?_)
  have n12 : ¬ b1 = b2 := by rintro rfl; simp at hb2
  have n21 : ¬ b2 = b1 := fun h => n12 h.symm
  simp -implicitDefEqProofs [n12, n21]
  refine allocK.intro (fun b3 hb3 => ?_)
  have n13 : ¬ b1 = b3 := by rintro rfl; simp [n12] at hb3
  have n31 : ¬ b3 = b1 := fun h => n13 h.symm
  have n23 : ¬ b2 = b3 := by rintro rfl; simp at hb3
  have n32 : ¬ b3 = b2 := fun h => n23 h.symm
  simp -implicitDefEqProofs [n12, n21, n13, n31, n23, n32]
  intro _
  refine loopK.post (OfI1 v l b2 b3) (fun t => l.length - natOf (t 18)) (OfM1 v l b2 b3) ?_ ?_ ?_
  · exact ⟨0, by simp, by simp, by simp, by simp, by simp, by simp, by omega, ⟨_, by simp [n12, n21, n13, n31, n23, n32]; rfl, rfl⟩, by simp [eSt3, headL, heldL, incL, lastL, rowsVB, rowsVC, rowsVI]⟩
  · rintro t hh ⟨k, g1, g4, g5, g16, g17, g18, hk, ⟨z, c2, hz⟩, c3⟩
    by_cases hlt : k < l.length
    · have hlt' : (k : Int) < (l.length : Int) := by omega
      have hw : IntKind.i64.wrap ((k : Int) + 1) = ((k + 1 : Nat) : Int) := by rw [w64 (by omega) (by omega)]; omega
      obtain ⟨r, hx⟩ : ∃ r, l[k]? = some r := ⟨l[k], by simp [hlt]⟩
      have hrr := hl r (List.mem_of_getElem? hx)
      have hhr : rightV (heldL v (l.take k)) = true := by
        have := (tells_fold hv hl k hk).held
        rw [← this]
        exact (okT_fold hv hl k hk).rh
      have s1 := heldL_step (v := v) hx
      have s2 := lastL_step hx
      have s3 := incL_step hx
      have hwi := within4_spec (heldL v (l.take k)) r.view hhr (right_cell hrr).1
      unfold headL at c3
      have e9 : headL v (l.take (k + 1)) = ⟨[], [], [], heldL v (l.take (k + 1)), incL (l.take (k + 1)), lastL (l.take (k + 1))⟩ := rfl
      generalize heldL v (l.take k) = he at *
      generalize lastL (l.take k) = la at *
      generalize incL (l.take k) = ic at *
      simp -implicitDefEqProofs [g16, g17, g18, hlt', hx, eRc]
      refine allocK.intro (fun b4 hb4 => ?_)
      have n24 : ¬ b2 = b4 := by rintro rfl; rw [c2] at hb4; simp at hb4
      have n42 : ¬ b4 = b2 := fun h => n24 h.symm
      have n34 : ¬ b3 = b4 := by rintro rfl; rw [c3] at hb4; simp at hb4
      have n43 : ¬ b4 = b3 := fun h => n34 h.symm
      rw [eSt3] at c3
      by_cases k3 : r.kind = 3
      · rw [if_neg (by omega)] at s2 s3
        simp -implicitDefEqProofs [g5, c3, n34, n43, k3]
        refine CallK.with hwi (by simp [eV]) ?_
        cases hi : withinV he r.view
        · rw [if_neg (by rw [hi]; simp)] at s1
          simp -implicitDefEqProofs [g5, c3, n34, n43, k3, g18, hw]
          exact ⟨⟨k + 1, by simp [g1], by simp [g4], by simp [g5], by simp [g16], by simp [g17], by simp, by omega, ⟨z, by simp [n24, n23, c2], hz⟩, by rw [e9, s1, s2, s3]; simp [n34, n43, c3, eSt3, rowsVB, rowsVC, rowsVI]⟩, by omega⟩
        · rw [if_pos ⟨k3, hi⟩] at s1
          simp -implicitDefEqProofs [g5, c3, n34, n43, k3, g18, hw]
          exact ⟨⟨k + 1, by simp [g1], by simp [g4], by simp [g5], by simp [g16], by simp [g17], by simp, by omega, ⟨z, by simp [n24, n23, c2], hz⟩, by rw [e9, s1, s2, s3]; simp [eSt3, rowsVB, rowsVC, rowsVI]⟩, by omega⟩
      · rw [if_neg (fun h => k3 h.1)] at s1
        by_cases k4 : r.kind = 4
        · rw [if_neg (by omega)] at s3
          by_cases hi : la < r.n
          · rw [if_pos ⟨k4, hi⟩] at s2
            simp -implicitDefEqProofs [g5, c3, n34, n43, k3, k4, hi, g18, hw]
            exact ⟨⟨k + 1, by simp [g1], by simp [g4], by simp [g5], by simp [g16], by simp [g17], by simp, by omega, ⟨z, by simp [n24, n23, c2], hz⟩, by rw [e9, s1, s2, s3]; simp [eSt3, rowsVB, rowsVC, rowsVI]⟩, by omega⟩
          · rw [if_neg (fun h => hi h.2)] at s2
            simp -implicitDefEqProofs [g5, c3, n34, n43, k3, k4, hi, g18, hw]
            exact ⟨⟨k + 1, by simp [g1], by simp [g4], by simp [g5], by simp [g16], by simp [g17], by simp, by omega, ⟨z, by simp [n24, n23, c2], hz⟩, by rw [e9, s1, s2, s3]; simp [n34, n43, c3, eSt3, rowsVB, rowsVC, rowsVI]⟩, by omega⟩
        · rw [if_neg (fun h => k4 h.1)] at s2
          by_cases k6 : r.kind = 6
          · by_cases hi : ic < r.n
            · rw [if_pos ⟨k6, hi⟩] at s3
              simp -implicitDefEqProofs [g5, c3, n34, n43, k3, k4, k6, hi, g18, hw]
              exact ⟨⟨k + 1, by simp [g1], by simp [g4], by simp [g5], by simp [g16], by simp [g17], by simp, by omega, ⟨z, by simp [n24, n23, c2], hz⟩, by rw [e9, s1, s2, s3]; simp [eSt3, rowsVB, rowsVC, rowsVI]⟩, by omega⟩
            · rw [if_neg (fun h => hi h.2)] at s3
              simp -implicitDefEqProofs [g5, c3, n34, n43, k3, k4, k6, hi, g18, hw]
              exact ⟨⟨k + 1, by simp [g1], by simp [g4], by simp [g5], by simp [g16], by simp [g17], by simp, by omega, ⟨z, by simp [n24, n23, c2], hz⟩, by rw [e9, s1, s2, s3]; simp [n34, n43, c3, eSt3, rowsVB, rowsVC, rowsVI]⟩, by omega⟩
          · rw [if_neg (fun h => k6 h.1)] at s3
            simp -implicitDefEqProofs [g5, c3, n34, n43, k3, k4, k6, g18, hw]
            exact ⟨⟨k + 1, by simp [g1], by simp [g4], by simp [g5], by simp [g16], by simp [g17], by simp, by omega, ⟨z, by simp [n24, n23, c2], hz⟩, by rw [e9, s1, s2, s3]; simp [n34, n43, c3, eSt3, rowsVB, rowsVC, rowsVI]⟩, by omega⟩
    · have hlt' : ¬ (k : Int) < (l.length : Int) := by omega
      rw [List.take_of_length_le (by omega)] at c3
      simp -implicitDefEqProofs [g17, g18, hlt']
      exact ⟨by simp [g1], by simp [g4], by simp [g5], ⟨z, c2, hz⟩, c3⟩
  rintro t hh ⟨g1, g4, g5, ⟨z, c2, hz⟩, c3⟩
  have hvs := views12_spec l (fun r hr => (right_cell (hl r hr)).1) hn
  have hvl := viewsTo_len l 4096
  unfold stateL
  generalize viewsTo l 4096 = vs at *
  simp -implicitDefEqProofs [g1]
  refine CallK.via hvs (by simp) ?_
  rintro _ ⟨tag, rfl⟩
  simp -implicitDefEqProofs
  intro _
  refine loopK.post (OfI2 v l vs b2 b3) (fun t => vs.length - natOf (t 65)) (OfM2 v l vs b2 b3) ?_ ?_ ?_
  · exact ⟨0, .nil, .nil, .nil, tag, by simp [g1], by simp [g4], by simp [g5], by simp, by simp, by simp, by omega, ⟨z, c2, hz⟩, by rw [c3]; rfl, by simp, by simp, by simp⟩
  · rintro t hh ⟨k, t1, t2, t3, tv, g1, g4, g5, g63, g64, g65, hk, ⟨z, c2, hz⟩, c3, a1, a2, a3⟩
    by_cases hlt : k < vs.length
    · have hlt' : (k : Int) < (vs.length : Int) := by omega
      have hw : IntKind.i64.wrap ((k : Int) + 1) = ((k + 1 : Nat) : Int) := by rw [w64 (by omega) (by omega)]; omega
      obtain ⟨u, hx⟩ : ∃ u, vs[k]? = some u := ⟨vs[k], by simp [hlt]⟩
      have hst : ∀ {α : Type} (f : PView → Option α), (vs.take (k + 1)).filterMap f = (vs.take k).filterMap f ++ (f u).toList := fun f => by
        rw [List.take_add_one, hx, List.filterMap_append]
        cases hf : f u <;> simp [hf]
      have hlen : ∀ {α : Type} (f : PView → Option α), ((vs.take k).filterMap f).length ≤ 4096 := fun f => by
        have := List.length_filterMap_le f (vs.take k)
        rw [List.length_take] at this; omega
      have hb := hst (bookV l)
      have hc := hst (cellsV l)
      have hi := hst (intentV l)
      have lb := hlen (bookV l)
      have lc := hlen (cellsV l)
      have li := hlen (intentV l)
      have e9 : partL v l (vs.take (k + 1)) = ⟨(vs.take (k + 1)).filterMap (bookV l), (vs.take (k + 1)).filterMap (cellsV l), (vs.take (k + 1)).filterMap (intentV l), heldL v l, incL l, lastL l⟩ := rfl
      have hbk := book12_spec l u hn
      have hce := cells12_spec l u hn
      have hin := intent12_spec l u hn
      unfold partL at c3
      rw [eSt3] at c3
      rw [show bookV l u = if bookL l u = [] then none else some ⟨u, bookL l u⟩ from rfl] at hb
      rw [show cellsV l u = if cellsL l u = [] then none else some ⟨u, cellsL l u⟩ from rfl] at hc
      rw [show intentV l u = (intentL l u).map (fun c => ⟨u, c⟩) from rfl] at hi
      generalize hB : (vs.take k).filterMap (bookV l) = B at *
      generalize hC : (vs.take k).filterMap (cellsV l) = C at *
      generalize hI : (vs.take k).filterMap (intentV l) = I at *
      simp -implicitDefEqProofs [g63, g64, g65, hlt', hx, eV]
      refine allocK.intro (fun b4 hb4 => ?_)
      have n24 : ¬ b2 = b4 := by rintro rfl; rw [c2] at hb4; simp at hb4
      have n42 : ¬ b4 = b2 := fun h => n24 h.symm
      have n34 : ¬ b3 = b4 := by rintro rfl; rw [c3] at hb4; simp at hb4
      have n43 : ¬ b4 = b3 := fun h => n34 h.symm
      simp -implicitDefEqProofs [n34, n43]
      refine regionK.intro 7 follows_mixed (by kernel_rfl) ?_
      simp -implicitDefEqProofs [g1]
      refine CallQ.take2 (x := .sl .no (eEs (bookL l u))) hbk (by simp [eV]) (by rintro _ ⟨tag, rfl⟩; rfl) ?_
      simp -implicitDefEqProofs [g1]
      refine CallQ.take2 (x := .sl .no (eCs (cellsL l u))) hce (by simp [eV]) (by rintro _ ⟨tag, rfl⟩; rfl) ?_
      simp -implicitDefEqProofs [g1, n34, n43]
      intro _
      by_cases hbk0 : bookL l u = []
      · rw [if_pos hbk0] at hb
        simp only [Option.toList_none, List.append_nil] at hb
        simp -implicitDefEqProofs [n24, n42, n34, n43, n23, n32, hbk0]
        intro _
        by_cases hce0 : cellsL l u = []
        · rw [if_pos hce0] at hc
          simp only [Option.toList_none, List.append_nil] at hc
          simp -implicitDefEqProofs [g1, n24, n42, n34, n43, n23, n32, hce0]
          refine CallK.with hin (by simp [eV]) ?_
          cases hic : intentL l u with
          | none =>
            rw [hic] at hi
            simp only [Option.map_none, Option.toList_none, List.append_nil] at hi
            rw [intentA']
            simp -implicitDefEqProofs [n24, n42, n34, n43, n23, n32, eV]
            refine allocK.intro (fun b5 hb5 => ?_)
            have n25 : ¬ b2 = b5 := by rintro rfl; simp [n24, n42, n34, n43, n23, n32, c2] at hb5
            have n52 : ¬ b5 = b2 := fun h => n25 h.symm
            have n35 : ¬ b3 = b5 := by rintro rfl; simp [n24, n42, n34, n43, n23, n32, c3] at hb5
            have n53 : ¬ b5 = b3 := fun h => n35 h.symm
            have n45 : ¬ b4 = b5 := by rintro rfl; simp [n24, n42, n34, n43, n23, n32] at hb5
            have n54 : ¬ b5 = b4 := fun h => n45 h.symm
            simp -implicitDefEqProofs [n24, n42, n34, n43, n23, n32, n25, n52, n35, n53, n45, n54]
            simp -implicitDefEqProofs [g65, hw]
            exact ⟨⟨k + 1, t1, t2, t3, tv, by simp [g1], by simp [g4], by simp [g5], by simp [g63], by simp [g64], by simp, by omega, ⟨z, by simp [n24, n42, n34, n43, n23, n32, n25, n52, n35, n53, n45, n54, c2], hz⟩, by rw [e9, hb, hc, hi]; simp [n24, n42, n34, n43, n23, n32, n25, n52, n35, n53, n45, n54, c3, eSt3, rowsVB, rowsVC, rowsVI, eVB, eVC, eVI], by simp [a1], by simp [a2], by simp [a3]⟩, by omega⟩
          | some c =>
            rw [hic] at hi
            simp only [Option.map_some, Option.toList_some] at hi
            rw [intentA']
            simp -implicitDefEqProofs [n24, n42, n34, n43, n23, n32, eV]
            refine allocK.intro (fun b5 hb5 => ?_)
            have n25 : ¬ b2 = b5 := by rintro rfl; simp [n24, n42, n34, n43, n23, n32, c2] at hb5
            have n52 : ¬ b5 = b2 := fun h => n25 h.symm
            have n35 : ¬ b3 = b5 := by rintro rfl; simp [n24, n42, n34, n43, n23, n32, c3] at hb5
            have n53 : ¬ b5 = b3 := fun h => n35 h.symm
            have n45 : ¬ b4 = b5 := by rintro rfl; simp [n24, n42, n34, n43, n23, n32] at hb5
            have n54 : ¬ b5 = b4 := fun h => n45 h.symm
            simp -implicitDefEqProofs [n24, n42, n34, n43, n23, n32, n25, n52, n35, n53, n45, n54, g5, c3, a3, rowsVI, eV]
            refine ⟨⟨fun _ _ => rfl, by omega⟩, ?_⟩
            simp -implicitDefEqProofs [g65, hw]
            exact ⟨⟨k + 1, t1, t2, appTag t3 93 4 [eVI ⟨u, c⟩], tv, by simp [g1], by simp [g4], by simp [g5], by simp [g63], by simp [g64], by simp, by omega, ⟨z, by simp [n24, n42, n34, n43, n23, n32, n25, n52, n35, n53, n45, n54, c2], hz⟩, by rw [e9, hb, hc, hi]; simp [n24, n42, n34, n43, n23, n32, n25, n52, n35, n53, n45, n54, c3, eSt3, rowsVB, rowsVC, rowsVI, eVB, eVC, eVI], by simp [a1], by simp [a2], by simp [a3]⟩, by omega⟩
        · rw [if_neg hce0] at hc
          simp only [Option.toList_some] at hc
          have hpos : 0 < (cellsL l u).length := List.length_pos_iff.2 hce0
          simp -implicitDefEqProofs [g1, n24, n42, n34, n43, n23, n32, hpos, g5, c3, a2, rowsVC, eV]
          refine ⟨⟨fun _ _ => rfl, by omega⟩, ?_⟩
          refine CallK.with hin (by simp [eV]) ?_
          cases hic : intentL l u with
          | none =>
            rw [hic] at hi
            simp only [Option.map_none, Option.toList_none, List.append_nil] at hi
            rw [intentA']
            simp -implicitDefEqProofs [n24, n42, n34, n43, n23, n32, eV]
            refine allocK.intro (fun b5 hb5 => ?_)
            have n25 : ¬ b2 = b5 := by rintro rfl; simp [n24, n42, n34, n43, n23, n32, c2] at hb5
            have n52 : ¬ b5 = b2 := fun h => n25 h.symm
            have n35 : ¬ b3 = b5 := by rintro rfl; simp [n24, n42, n34, n43, n23, n32, c3] at hb5
            have n53 : ¬ b5 = b3 := fun h => n35 h.symm
            have n45 : ¬ b4 = b5 := by rintro rfl; simp [n24, n42, n34, n43, n23, n32] at hb5
            have n54 : ¬ b5 = b4 := fun h => n45 h.symm
            simp -implicitDefEqProofs [n24, n42, n34, n43, n23, n32, n25, n52, n35, n53, n45, n54]
            simp -implicitDefEqProofs [g65, hw]
            exact ⟨⟨k + 1, t1, appTag t2 91 3 [eVC ⟨u, cellsL l u⟩], t3, tv, by simp [g1], by simp [g4], by simp [g5], by simp [g63], by simp [g64], by simp, by omega, ⟨z, by simp [n24, n42, n34, n43, n23, n32, n25, n52, n35, n53, n45, n54, c2], hz⟩, by rw [e9, hb, hc, hi]; simp [n24, n42, n34, n43, n23, n32, n25, n52, n35, n53, n45, n54, c3, eSt3, rowsVB, rowsVC, rowsVI, eVB, eVC, eVI], by simp [a1], by simp [a2], by simp [a3]⟩, by omega⟩
          | some c =>
            rw [hic] at hi
            simp only [Option.map_some, Option.toList_some] at hi
            rw [intentA']
            simp -implicitDefEqProofs [n24, n42, n34, n43, n23, n32, eV]
            refine allocK.intro (fun b5 hb5 => ?_)
            have n25 : ¬ b2 = b5 := by rintro rfl; simp [n24, n42, n34, n43, n23, n32, c2] at hb5
            have n52 : ¬ b5 = b2 := fun h => n25 h.symm
            have n35 : ¬ b3 = b5 := by rintro rfl; simp [n24, n42, n34, n43, n23, n32, c3] at hb5
            have n53 : ¬ b5 = b3 := fun h => n35 h.symm
            have n45 : ¬ b4 = b5 := by rintro rfl; simp [n24, n42, n34, n43, n23, n32] at hb5
            have n54 : ¬ b5 = b4 := fun h => n45 h.symm
            simp -implicitDefEqProofs [n24, n42, n34, n43, n23, n32, n25, n52, n35, n53, n45, n54, g5, c3, a3, rowsVI, eV]
            refine ⟨⟨fun _ _ => rfl, by omega⟩, ?_⟩
            simp -implicitDefEqProofs [g65, hw]
            exact ⟨⟨k + 1, t1, appTag t2 91 3 [eVC ⟨u, cellsL l u⟩], appTag t3 93 4 [eVI ⟨u, c⟩], tv, by simp [g1], by simp [g4], by simp [g5], by simp [g63], by simp [g64], by simp, by omega, ⟨z, by simp [n24, n42, n34, n43, n23, n32, n25, n52, n35, n53, n45, n54, c2], hz⟩, by rw [e9, hb, hc, hi]; simp [n24, n42, n34, n43, n23, n32, n25, n52, n35, n53, n45, n54, c3, eSt3, rowsVB, rowsVC, rowsVI, eVB, eVC, eVI], by simp [a1], by simp [a2], by simp [a3]⟩, by omega⟩
      · rw [if_neg hbk0] at hb
        simp only [Option.toList_some] at hb
        have hpos1 : 0 < (bookL l u).length := List.length_pos_iff.2 hbk0
        simp -implicitDefEqProofs [n24, n42, n34, n43, n23, n32, hpos1, g5, c3, a1, rowsVB, eV]
        refine ⟨⟨fun _ _ => rfl, by omega⟩, ?_⟩
        intro _
        by_cases hce0 : cellsL l u = []
        · rw [if_pos hce0] at hc
          simp only [Option.toList_none, List.append_nil] at hc
          simp -implicitDefEqProofs [g1, n24, n42, n34, n43, n23, n32, hce0]
          refine CallK.with hin (by simp [eV]) ?_
          cases hic : intentL l u with
          | none =>
            rw [hic] at hi
            simp only [Option.map_none, Option.toList_none, List.append_nil] at hi
            rw [intentA']
            simp -implicitDefEqProofs [n24, n42, n34, n43, n23, n32, eV]
            refine allocK.intro (fun b5 hb5 => ?_)
            have n25 : ¬ b2 = b5 := by rintro rfl; simp [n24, n42, n34, n43, n23, n32, c2] at hb5
            have n52 : ¬ b5 = b2 := fun h => n25 h.symm
            have n35 : ¬ b3 = b5 := by rintro rfl; simp [n24, n42, n34, n43, n23, n32, c3] at hb5
            have n53 : ¬ b5 = b3 := fun h => n35 h.symm
            have n45 : ¬ b4 = b5 := by rintro rfl; simp [n24, n42, n34, n43, n23, n32] at hb5
            have n54 : ¬ b5 = b4 := fun h => n45 h.symm
            simp -implicitDefEqProofs [n24, n42, n34, n43, n23, n32, n25, n52, n35, n53, n45, n54]
            simp -implicitDefEqProofs [g65, hw]
            exact ⟨⟨k + 1, appTag t1 89 3 [eVB ⟨u, bookL l u⟩], t2, t3, tv, by simp [g1], by simp [g4], by simp [g5], by simp [g63], by simp [g64], by simp, by omega, ⟨z, by simp [n24, n42, n34, n43, n23, n32, n25, n52, n35, n53, n45, n54, c2], hz⟩, by rw [e9, hb, hc, hi]; simp [n24, n42, n34, n43, n23, n32, n25, n52, n35, n53, n45, n54, c3, eSt3, rowsVB, rowsVC, rowsVI, eVB, eVC, eVI], by simp [a1], by simp [a2], by simp [a3]⟩, by omega⟩
          | some c =>
            rw [hic] at hi
            simp only [Option.map_some, Option.toList_some] at hi
            rw [intentA']
            simp -implicitDefEqProofs [n24, n42, n34, n43, n23, n32, eV]
            refine allocK.intro (fun b5 hb5 => ?_)
            have n25 : ¬ b2 = b5 := by rintro rfl; simp [n24, n42, n34, n43, n23, n32, c2] at hb5
            have n52 : ¬ b5 = b2 := fun h => n25 h.symm
            have n35 : ¬ b3 = b5 := by rintro rfl; simp [n24, n42, n34, n43, n23, n32, c3] at hb5
            have n53 : ¬ b5 = b3 := fun h => n35 h.symm
            have n45 : ¬ b4 = b5 := by rintro rfl; simp [n24, n42, n34, n43, n23, n32] at hb5
            have n54 : ¬ b5 = b4 := fun h => n45 h.symm
            simp -implicitDefEqProofs [n24, n42, n34, n43, n23, n32, n25, n52, n35, n53, n45, n54, g5, c3, a3, rowsVI, eV]
            refine ⟨⟨fun _ _ => rfl, by omega⟩, ?_⟩
            simp -implicitDefEqProofs [g65, hw]
            exact ⟨⟨k + 1, appTag t1 89 3 [eVB ⟨u, bookL l u⟩], t2, appTag t3 93 4 [eVI ⟨u, c⟩], tv, by simp [g1], by simp [g4], by simp [g5], by simp [g63], by simp [g64], by simp, by omega, ⟨z, by simp [n24, n42, n34, n43, n23, n32, n25, n52, n35, n53, n45, n54, c2], hz⟩, by rw [e9, hb, hc, hi]; simp [n24, n42, n34, n43, n23, n32, n25, n52, n35, n53, n45, n54, c3, eSt3, rowsVB, rowsVC, rowsVI, eVB, eVC, eVI], by simp [a1], by simp [a2], by simp [a3]⟩, by omega⟩
        · rw [if_neg hce0] at hc
          simp only [Option.toList_some] at hc
          have hpos : 0 < (cellsL l u).length := List.length_pos_iff.2 hce0
          simp -implicitDefEqProofs [g1, n24, n42, n34, n43, n23, n32, hpos, g5, c3, a2, rowsVC, eV]
          refine ⟨⟨fun _ _ => rfl, by omega⟩, ?_⟩
          refine CallK.with hin (by simp [eV]) ?_
          cases hic : intentL l u with
          | none =>
            rw [hic] at hi
            simp only [Option.map_none, Option.toList_none, List.append_nil] at hi
            rw [intentA']
            simp -implicitDefEqProofs [n24, n42, n34, n43, n23, n32, eV]
            refine allocK.intro (fun b5 hb5 => ?_)
            have n25 : ¬ b2 = b5 := by rintro rfl; simp [n24, n42, n34, n43, n23, n32, c2] at hb5
            have n52 : ¬ b5 = b2 := fun h => n25 h.symm
            have n35 : ¬ b3 = b5 := by rintro rfl; simp [n24, n42, n34, n43, n23, n32, c3] at hb5
            have n53 : ¬ b5 = b3 := fun h => n35 h.symm
            have n45 : ¬ b4 = b5 := by rintro rfl; simp [n24, n42, n34, n43, n23, n32] at hb5
            have n54 : ¬ b5 = b4 := fun h => n45 h.symm
            simp -implicitDefEqProofs [n24, n42, n34, n43, n23, n32, n25, n52, n35, n53, n45, n54]
            simp -implicitDefEqProofs [g65, hw]
            exact ⟨⟨k + 1, appTag t1 89 3 [eVB ⟨u, bookL l u⟩], appTag t2 91 3 [eVC ⟨u, cellsL l u⟩], t3, tv, by simp [g1], by simp [g4], by simp [g5], by simp [g63], by simp [g64], by simp, by omega, ⟨z, by simp [n24, n42, n34, n43, n23, n32, n25, n52, n35, n53, n45, n54, c2], hz⟩, by rw [e9, hb, hc, hi]; simp [n24, n42, n34, n43, n23, n32, n25, n52, n35, n53, n45, n54, c3, eSt3, rowsVB, rowsVC, rowsVI, eVB, eVC, eVI], by simp [a1], by simp [a2], by simp [a3]⟩, by omega⟩
          | some c =>
            rw [hic] at hi
            simp only [Option.map_some, Option.toList_some] at hi
            rw [intentA']
            simp -implicitDefEqProofs [n24, n42, n34, n43, n23, n32, eV]
            refine allocK.intro (fun b5 hb5 => ?_)
            have n25 : ¬ b2 = b5 := by rintro rfl; simp [n24, n42, n34, n43, n23, n32, c2] at hb5
            have n52 : ¬ b5 = b2 := fun h => n25 h.symm
            have n35 : ¬ b3 = b5 := by rintro rfl; simp [n24, n42, n34, n43, n23, n32, c3] at hb5
            have n53 : ¬ b5 = b3 := fun h => n35 h.symm
            have n45 : ¬ b4 = b5 := by rintro rfl; simp [n24, n42, n34, n43, n23, n32] at hb5
            have n54 : ¬ b5 = b4 := fun h => n45 h.symm
            simp -implicitDefEqProofs [n24, n42, n34, n43, n23, n32, n25, n52, n35, n53, n45, n54, g5, c3, a3, rowsVI, eV]
            refine ⟨⟨fun _ _ => rfl, by omega⟩, ?_⟩
            simp -implicitDefEqProofs [g65, hw]
            exact ⟨⟨k + 1, appTag t1 89 3 [eVB ⟨u, bookL l u⟩], appTag t2 91 3 [eVC ⟨u, cellsL l u⟩], appTag t3 93 4 [eVI ⟨u, c⟩], tv, by simp [g1], by simp [g4], by simp [g5], by simp [g63], by simp [g64], by simp, by omega, ⟨z, by simp [n24, n42, n34, n43, n23, n32, n25, n52, n35, n53, n45, n54, c2], hz⟩, by rw [e9, hb, hc, hi]; simp [n24, n42, n34, n43, n23, n32, n25, n52, n35, n53, n45, n54, c3, eSt3, rowsVB, rowsVC, rowsVI, eVB, eVC, eVI], by simp [a1], by simp [a2], by simp [a3]⟩, by omega⟩
    · have hlt' : ¬ (k : Int) < (vs.length : Int) := by omega
      rw [List.take_of_length_le (by omega)] at c3
      simp -implicitDefEqProofs [g64, g65, hlt']
      exact ⟨t1, t2, t3, by simp [g4], by simp [g5], ⟨z, c2, hz⟩, c3⟩
  rintro t hh ⟨t1, t2, t3, g4, g5, ⟨z, c2, hz⟩, c3⟩
  have e9 : partL v l vs = ⟨vs.filterMap (bookV l), vs.filterMap (cellsV l), vs.filterMap (intentV l), heldL v l, incL l, lastL l⟩ := rfl
  rw [e9] at c3
  rw [eSt3] at c3
  simp -implicitDefEqProofs [g4, g5, c2, hz, c3, n23, n32, eSt, rowsVB, rowsVC, rowsVI]
end Go.Proofs.YtjbbfiagijjdoaaGreat

/- Contracts: the document's: are two states the same? No condition. -/
set_option linter.unusedSimpArgs false
set_option linter.unusedVariables false
set_option maxRecDepth 10000
namespace Go.Proofs.YtjbbfiagijjdoaaGreat
open Go Go.Rw Go.Proofs
-- a goal is never to be run by the elaborator
attribute [local irreducible] awp aops aop aopsE aeff

/-- a state whose values are of 64 bits -/
def fitS (s : PState) : Prop := ∀ x ∈ s.books, ∀ e ∈ x.book, e.value < 18446744073709551616
def S12 (a b : PState) (b1 b2 : Nat) (t : Nat → AV) (h : Nat → Option (List AV)) : Prop := t 2 = .ptr b1 0 ∧ t 3 = .ptr b2 0 ∧ h b1 = some (eSt a) ∧ h b2 = some (eSt b)
def S12B (a b : PState) (b1 b2 : Nat) (t : Nat → AV) (h : Nat → Option (List AV)) : Prop := ∃ k : Nat, S12 a b b1 b2 t h ∧ t 56 = eI a.books.length ∧ t 57 = eI k ∧ k ≤ a.books.length ∧ sameVBs (a.books.drop k) (b.books.drop k) = sameVBs a.books b.books
def S12D (a b : PState) (b1 b2 : Nat) (t : Nat → AV) (h : Nat → Option (List AV)) : Prop := ∃ k : Nat, S12 a b b1 b2 t h ∧ t 92 = eI a.cells.length ∧ t 93 = eI k ∧ k ≤ a.cells.length ∧ sameVCs (a.cells.drop k) (b.cells.drop k) = sameVCs a.cells b.cells
def S12E (a b : PState) (b1 b2 : Nat) (t : Nat → AV) (h : Nat → Option (List AV)) : Prop := ∃ k : Nat, S12 a b b1 b2 t h ∧ t 128 = eI a.intents.length ∧ t 129 = eI k ∧ k ≤ a.intents.length ∧ a.intents.take k = b.intents.take k
def S12M (a b : PState) (b1 b2 : Nat) (P : Prop) (t : Nat → AV) (h : Nat → Option (List AV)) : Prop := S12 a b b1 b2 t h ∧ P
theorem same12_spec (a b : PState) (ha : fitS a) (hb : fitS b) : ASpec Tryz.prog 27 [.agg (eSt a), .agg (eSt b)] (· = .v (.bool (sameSt a b))) := by
  refine ASpec.of_awp Tryz.func27 (by kernel_rfl) rfl (by rw [Tryz.results27]) Tryz.ntmps27 ?_
  simp -implicitDefEqProofs [eSt]
  refine allocK.intro (fun b1 hb1 => ?_)
  simp -implicitDefEqProofs
  refine allocK.intro (fun b2 hb2 => ?_)
  have n12 : ¬ b1 = b2 := by rintro rfl; simp at hb2
  have n21 : ¬ b2 = b1 := fun h => n12 h.symm
  simp -implicitDefEqProofs [n12, n21]
  intro l1 l2
  by_cases h1 : a.books.length = b.books.length
  rotate_left
  · have e : sameSt a b = false := by unfold sameSt; rw [sameVBs_len h1]; rfl
    have h1' : ¬ (a.books.length : Int) = (b.books.length : Int) := by omega
    simp -implicitDefEqProofs [n12, n21, h1, h1', e]
  simp -implicitDefEqProofs [n12, n21, h1]
  intro l3 l4
  by_cases h2 : a.cells.length = b.cells.length
  rotate_left
  · have e : sameSt a b = false := by unfold sameSt; rw [sameVCs_len h2]; simp
    have h2' : ¬ (a.cells.length : Int) = (b.cells.length : Int) := by omega
    simp -implicitDefEqProofs [n12, n21, h2, h2', e]
  simp -implicitDefEqProofs [n12, n21, h2]
  intro l5 l6
  by_cases h3 : a.intents.length = b.intents.length
  rotate_left
  · have e0 : ¬ a.intents = b.intents := fun h => h3 (by rw [h])
    have e : sameSt a b = false := by unfold sameSt; simp [e0]
    have h3' : ¬ (a.intents.length : Int) = (b.intents.length : Int) := by omega
    simp -implicitDefEqProofs [n12, n21, h3, h3', e]
  by_cases h4 : a.held.add = b.held.add
  rotate_left
  · have e0 : ¬ a.held = b.held := fun h => h4 (by rw [h])
    have e : sameSt a b = false := by unfold sameSt; simp [e0]
    have h4' : (a.held.add == b.held.add) = false := by simpa using h4
    simp -implicitDefEqProofs [n12, n21, h3, h4, h4', e]
  by_cases h5 : a.held.del = b.held.del
  rotate_left
  · have e0 : ¬ a.held = b.held := fun h => h5 (by rw [h])
    have e : sameSt a b = false := by unfold sameSt; simp [e0]
    have h5' : (a.held.del == b.held.del) = false := by simpa using h5
    simp -implicitDefEqProofs [n12, n21, h3, h4, h5, h5', e]
  by_cases h6 : a.inc = b.inc
  rotate_left
  · have e : sameSt a b = false := by unfold sameSt; simp [h6]
    simp -implicitDefEqProofs [n12, n21, h3, h4, h5, h6, e]
  by_cases h7 : a.last = b.last
  rotate_left
  · have e : sameSt a b = false := by unfold sameSt; simp [h7]
    simp -implicitDefEqProofs [n12, n21, h3, h4, h5, h6, h7, e]
  have hheld : a.held = b.held := by cases hx : a.held; cases hy : b.held; simp_all
  have hrest : sameSt a b = (sameVBs a.books b.books && (sameVCs a.cells b.cells && decide (a.intents = b.intents))) := by simp only [sameSt, hheld, h6, h7, decide_true, Bool.and_true]
  rw [hrest]
  simp -implicitDefEqProofs [n12, n21, h3, h4, h5, h6, h7]
  intro _
  have eA : eSt a = [.sl .no (rowsVB a.books), .sl .no (rowsVC a.cells), .sl .no (rowsVI a.intents), eI a.held.add, eI a.held.del, eI a.inc, eI a.last] := rfl
  have eB : eSt b = [.sl .no (rowsVB b.books), .sl .no (rowsVC b.cells), .sl .no (rowsVI b.intents), eI b.held.add, eI b.held.del, eI b.inc, eI b.last] := rfl
  refine loopK.post (S12B a b b1 b2) (fun t => a.books.length - natOf (t 57)) (S12M a b b1 b2 (sameVBs a.books b.books = true)) ?_ ?_ ?_
  · exact ⟨0, ⟨by simp, by simp, by simp [n12, n21, eSt, h4, h5, h6, h7], by simp [eSt, h4, h5, h6, h7]⟩, by simp, by simp, by omega, by simp⟩

  · rintro t hh ⟨k, ⟨g2, g3, c1, c2⟩, gl, gk, hk, he⟩
    by_cases hlt : k < a.books.length
    · have hlt' : (k : Int) < (a.books.length : Int) := by omega
      have hlt2 : k < b.books.length := by omega
      obtain ⟨x, hx⟩ : ∃ x, a.books[k]? = some x := ⟨a.books[k], by simp [hlt]⟩
      obtain ⟨y, hy⟩ : ∃ y, b.books[k]? = some y := ⟨b.books[k], by simp [hlt2]⟩
      have hw : IntKind.i64.wrap ((k : Int) + 1) = ((k + 1 : Nat) : Int) := by rw [w64 (by omega) (by omega)]; omega
      have hdx : a.books.drop k = x :: a.books.drop (k + 1) := by
        rw [List.drop_eq_getElem_cons hlt]; rw [List.getElem?_eq_getElem hlt] at hx; rw [Option.some.inj hx]
      have hdy : b.books.drop k = y :: b.books.drop (k + 1) := by
        rw [List.drop_eq_getElem_cons hlt2]; rw [List.getElem?_eq_getElem hlt2] at hy; rw [Option.some.inj hy]
      rw [hdx, hdy, sameVBs] at he
      have c1' := c1
      have c2' := c2
      rw [eA] at c1'
      rw [eB] at c2'
      simp -implicitDefEqProofs [gl, gk, hlt']
      refine regionK.intro 29 follows_mixed (by kernel_rfl) ?_
      by_cases v1 : x.view.add = y.view.add
      · by_cases v2 : x.view.del = y.view.del
        · have hv : x.view = y.view := by cases hx : x.view; cases hy : y.view; simp_all
          simp -implicitDefEqProofs [g2, g3, c1', c2', hx, hy, eVB, v1, v2]
          refine CallQ.eq (same7_spec x.book y.book (ha x (List.mem_of_getElem? hx)) (hb y (List.mem_of_getElem? hy))) ?_
          simp -implicitDefEqProofs
          refine branch_intro (fun h8 => ?_) (fun h8 => ?_)
          · have e8 : sameEs x.book y.book = true := by simpa using h8
            rw [sameVB, e8] at he
            simp only [hv, decide_true, Bool.true_and] at he
            simp -implicitDefEqProofs [gk, hw]
            exact ⟨⟨k + 1, ⟨by simp [g2], by simp [g3], c1, c2⟩, by simp [gl], by simp, by omega, he⟩, by omega⟩
          · have e8 : sameEs x.book y.book = false := by simpa using h8
            rw [sameVB, e8, Bool.and_false, Bool.false_and] at he
            simp -implicitDefEqProofs [← he]
        · have hv : ¬ x.view = y.view := fun h => v2 (by rw [h])
          have v2' : (x.view.del == y.view.del) = false := by simpa using v2
          have e8 : sameVBs (x :: a.books.drop (k + 1)) (y :: b.books.drop (k + 1)) = false := by simp [sameVBs, sameVB, hv]
          rw [sameVB] at he
          simp only [hv, decide_false, Bool.false_and] at he
          simp -implicitDefEqProofs [g2, g3, c1', c2', hx, hy, eVB, v1, v2, v2', ← he]
      · have hv : ¬ x.view = y.view := fun h => v1 (by rw [h])
        have v1' : (x.view.add == y.view.add) = false := by simpa using v1
        rw [sameVB] at he
        simp only [hv, decide_false, Bool.false_and] at he
        simp -implicitDefEqProofs [g2, g3, c1', c2', hx, hy, eVB, v1, v1', ← he]
    · have hlt' : ¬ (k : Int) < (a.books.length : Int) := by omega
      simp -implicitDefEqProofs [gl, gk, hlt']
      rw [List.drop_eq_nil_of_le (by omega), List.drop_eq_nil_of_le (by omega)] at he
      exact ⟨⟨by simp [g2], by simp [g3], c1, c2⟩, by rw [← he]; rfl⟩
  rintro t hh ⟨⟨g2, g3, c1, c2⟩, hB⟩
  rw [hB, Bool.true_and]
  have c1' := c1
  rw [eA] at c1'
  simp -implicitDefEqProofs [g2, c1']
  intro _
  refine loopK.post (S12D a b b1 b2) (fun t => a.cells.length - natOf (t 93)) (S12M a b b1 b2 (sameVCs a.cells b.cells = true)) ?_ ?_ ?_
  · exact ⟨0, ⟨by simp [g2], by simp [g3], c1, c2⟩, by simp, by simp, by omega, by simp⟩

  · rintro t hh ⟨k, ⟨g2, g3, c1, c2⟩, gl, gk, hk, he⟩
    by_cases hlt : k < a.cells.length
    · have hlt' : (k : Int) < (a.cells.length : Int) := by omega
      have hlt2 : k < b.cells.length := by omega
      obtain ⟨x, hx⟩ : ∃ x, a.cells[k]? = some x := ⟨a.cells[k], by simp [hlt]⟩
      obtain ⟨y, hy⟩ : ∃ y, b.cells[k]? = some y := ⟨b.cells[k], by simp [hlt2]⟩
      have hw : IntKind.i64.wrap ((k : Int) + 1) = ((k + 1 : Nat) : Int) := by rw [w64 (by omega) (by omega)]; omega
      have hdx : a.cells.drop k = x :: a.cells.drop (k + 1) := by
        rw [List.drop_eq_getElem_cons hlt]; rw [List.getElem?_eq_getElem hlt] at hx; rw [Option.some.inj hx]
      have hdy : b.cells.drop k = y :: b.cells.drop (k + 1) := by
        rw [List.drop_eq_getElem_cons hlt2]; rw [List.getElem?_eq_getElem hlt2] at hy; rw [Option.some.inj hy]
      rw [hdx, hdy, sameVCs] at he
      have c1' := c1
      have c2' := c2
      rw [eA] at c1'
      rw [eB] at c2'
      simp -implicitDefEqProofs [gl, gk, hlt']
      refine regionK.intro 29 follows_mixed (by kernel_rfl) ?_
      by_cases v1 : x.view.add = y.view.add
      · by_cases v2 : x.view.del = y.view.del
        · have hv : x.view = y.view := by cases hx : x.view; cases hy : y.view; simp_all
          simp -implicitDefEqProofs [g2, g3, c1', c2', hx, hy, eVC, v1, v2]
          refine CallQ.eq (same10_spec x.cells y.cells) ?_
          simp -implicitDefEqProofs
          refine branch_intro (fun h8 => ?_) (fun h8 => ?_)
          · have e8 : decide (x.cells = y.cells) = true := by simpa using h8
            rw [sameVC, e8] at he
            simp only [hv, decide_true, Bool.true_and] at he
            simp -implicitDefEqProofs [gk, hw]
            exact ⟨⟨k + 1, ⟨by simp [g2], by simp [g3], c1, c2⟩, by simp [gl], by simp, by omega, he⟩, by omega⟩
          · have e8 : decide (x.cells = y.cells) = false := by simpa using h8
            rw [sameVC, e8, Bool.and_false, Bool.false_and] at he
            simp -implicitDefEqProofs [← he]
        · have hv : ¬ x.view = y.view := fun h => v2 (by rw [h])
          have v2' : (x.view.del == y.view.del) = false := by simpa using v2
          have e8 : sameVCs (x :: a.cells.drop (k + 1)) (y :: b.cells.drop (k + 1)) = false := by simp [sameVCs, sameVC, hv]
          rw [sameVC] at he
          simp only [hv, decide_false, Bool.false_and] at he
          simp -implicitDefEqProofs [g2, g3, c1', c2', hx, hy, eVC, v1, v2, v2', ← he]
      · have hv : ¬ x.view = y.view := fun h => v1 (by rw [h])
        have v1' : (x.view.add == y.view.add) = false := by simpa using v1
        rw [sameVC] at he
        simp only [hv, decide_false, Bool.false_and] at he
        simp -implicitDefEqProofs [g2, g3, c1', c2', hx, hy, eVC, v1, v1', ← he]
    · have hlt' : ¬ (k : Int) < (a.cells.length : Int) := by omega
      simp -implicitDefEqProofs [gl, gk, hlt']
      rw [List.drop_eq_nil_of_le (by omega), List.drop_eq_nil_of_le (by omega)] at he
      exact ⟨⟨by simp [g2], by simp [g3], c1, c2⟩, by rw [← he]; rfl⟩
  rintro t hh ⟨⟨g2, g3, c1, c2⟩, hC⟩
  rw [hC, Bool.true_and]
  have c1' := c1
  rw [eA] at c1'
  simp -implicitDefEqProofs [g2, c1']
  intro _
  refine loopK.post (S12E a b b1 b2) (fun t => a.intents.length - natOf (t 129)) (S12M a b b1 b2 (a.intents = b.intents)) ?_ ?_ ?_
  · exact ⟨0, ⟨by simp [g2], by simp [g3], c1, c2⟩, by simp, by simp, by omega, by simp⟩

  · rintro t hh ⟨k, ⟨g2, g3, c1, c2⟩, gl, gk, hk, he⟩
    by_cases hlt : k < a.intents.length
    · have hlt' : (k : Int) < (a.intents.length : Int) := by omega
      have hlt2 : k < b.intents.length := by omega
      obtain ⟨x, hx⟩ : ∃ x, a.intents[k]? = some x := ⟨a.intents[k], by simp [hlt]⟩
      obtain ⟨y, hy⟩ : ∃ y, b.intents[k]? = some y := ⟨b.intents[k], by simp [hlt2]⟩
      have hw : IntKind.i64.wrap ((k : Int) + 1) = ((k + 1 : Nat) : Int) := by rw [w64 (by omega) (by omega)]; omega
      have c1' := c1
      have c2' := c2
      rw [eA] at c1'
      rw [eB] at c2'
      simp -implicitDefEqProofs [gl, gk, hlt']
      refine regionK.intro 11 follows_mixed (by kernel_rfl) ?_
      simp -implicitDefEqProofs [g2, g3, c1', c2', hx, hy, eVI]
      refine branch_intro (fun hb2 => ?_) (fun hb2 => ?_)
      · have hne : x ≠ y := by rintro rfl; simp at hb2
        have hno : ¬ a.intents = b.intents := fun h => by rw [h, hy] at hx; exact hne (Option.some.inj hx).symm
        simp -implicitDefEqProofs [hno]
      · have hxy : x = y := by
          rw [viEq]
          simp at hb2
          simp [hb2]
        simp -implicitDefEqProofs [gk, hw]
        refine ⟨⟨k + 1, ⟨by simp [g2], by simp [g3], c1, c2⟩, by simp [gl], by simp, by omega, ?_⟩, by omega⟩
        rw [List.take_add_one, List.take_add_one, he, hx, hy, hxy]
    · have hlt' : ¬ (k : Int) < (a.intents.length : Int) := by omega
      simp -implicitDefEqProofs [gl, gk, hlt']
      rw [List.take_of_length_le (by omega), List.take_of_length_le (by omega)] at he
      exact ⟨⟨by simp [g2], by simp [g3], c1, c2⟩, he⟩
  rintro t hh ⟨⟨g2, g3, c1, c2⟩, hE⟩
  simp -implicitDefEqProofs [hE]
end Go.Proofs.YtjbbfiagijjdoaaGreat

/- The law FoldSteps, walked. No condition. -/
set_option linter.unusedSimpArgs false
set_option linter.unusedVariables false
set_option maxRecDepth 10000
namespace Go.Proofs.YtjbbfiagijjdoaaGreat
open Go Go.Rw Go.Proofs
-- a goal is never to be run by the elaborator
attribute [local irreducible] awp aops aop aopsE aeff

theorem book_new (s : PState) (v : PView) (hs : OkS s) (hv : rightV v = true) : ASpec Tryz.prog 37 [.agg (eSt s), .agg (eV v)] (New 46 4 (eEs (bookS s v))) := by
  refine ASpec.of_awp Tryz.func37 (by kernel_rfl) rfl (by rw [Tryz.results37]) Tryz.ntmps37 ?_
  simp -implicitDefEqProofs [eV, eSt]
  refine allocK.intro (fun b1 hb1 => ?_)
  simp -implicitDefEqProofs
  refine allocK.intro (fun b2 hb2 => ?_)
  have n12 : ¬ b1 = b2 := by rintro rfl; simp at hb2
  have n21 : ¬ b2 = b1 := fun h => n12 h.symm
  simp -implicitDefEqProofs [n12, n21]
  refine regionK.intro 10 follows_mixed (by kernel_rfl) ?_
  simp -implicitDefEqProofs [n12, n21]
  refine CallQ.with shelvedVB_spec rfl ?_
  simp -implicitDefEqProofs [n12, n21]
  refine CallQ.with (placeVB_spec s.books v hs.sb (by have := hs.lb; omega) hs.rb hv) (by simp [eV, rowsVB]) ?_
  have hat := hasK_at hs.sb (nameV v)
  rcases hat with ⟨x, hx, hk, hh⟩ | ⟨_, hh⟩
  · have hb : bookS s v = x.book := by unfold bookS; rw [hx, hh]; simp
    rw [hh, hb]
    have hlt : posK keyVB s.books (nameV v) < s.books.length := by
      rcases Nat.lt_or_ge (posK keyVB s.books (nameV v)) s.books.length with h | h
      · exact h
      · rw [List.getElem?_eq_none h] at hx; simp at hx
    have hbl := hs.bl x (List.mem_of_getElem? hx)
    generalize posK keyVB s.books (nameV v) = p at *
    have hlt' : (p : Int) < (s.books.length : Int) := by omega
    simp -implicitDefEqProofs [n12, n21, hx, hlt', eVB]
    refine CallK.via (clone_entries_new x.book (by omega)) rfl ?_
    rintro _ (⟨h0, tag, htag, rfl⟩ | ⟨hne, rfl⟩)
    · simp -implicitDefEqProofs
      exact .inl ⟨by simpa using h0, _, htag, rfl⟩
    · simp -implicitDefEqProofs
      exact .inr ⟨hne, rfl⟩
  · have hb : bookS s v = [] := by unfold bookS; rw [hh]; split <;> simp
    rw [hh, hb]
    simp -implicitDefEqProofs [n12, n21]
    exact .inl ⟨rfl, _, by simp, rfl⟩
theorem merge_from {a b : List PEntry} {x : PEntry} (h : x ∈ mergeE a b) : x ∈ a ∨ x ∈ b := by
  obtain ⟨_, h1, h2⟩ := mergeK_mem.1 h
  have key : ∀ c : List PEntry, x = findE c x.key → x ∈ c := fun c hc => by
    rw [findE_look] at hc
    cases hl : lookK keyE c x.key with
    | none => rw [hl] at hc; rw [hc] at h2; simp at h2
    | some y => rw [hl] at hc; simp at hc; rw [hc]; exact (look_some hl).1
  unfold newerE at h1
  split at h1
  · exact .inr (key b h1)
  · exact .inl (key a h1)
theorem fit_apply {n : Nat} {s : PState} (hs : OkT n s) {r : PRec} (hr : rightR r = true) (h : fitS s) (hf : fitR r) : fitS (applyS s r) := by
  intro x hx e he
  rw [look_mem (okN_apply hs.toOkN hr).sb, apply_books] at hx
  split at hx
  · obtain rfl := Option.some.inj hx
    rcases merge_from he with h1 | h1
    · rw [bookS_look hs.sb] at h1
      cases hl : lookK keyVB s.books (nameV r.view) with
      | none => rw [hl] at h1; simp at h1
      | some y => rw [hl] at h1; exact h y (look_some hl).1 e h1
    · simp at h1; rw [h1]; exact hf
  · exact h x (look_some hx).1 e he
theorem fit_fold {v : PView} (hv : rightV v = true) {l : List PRec} (hl : ∀ r ∈ l, rightR r = true) (hf : ∀ r ∈ l, fitR r) (k : Nat) (hk : k ≤ l.length) : fitS (foldS v (l.take k)) := by
  induction k with
  | zero => intro x hx; simp [foldS, newS] at hx
  | succ k ih =>
    have hx : l[k]? = some l[k] := List.getElem?_eq_getElem (by omega)
    rw [foldS_step hx]
    exact fit_apply (okT_fold hv hl k (by omega)) (hl _ (List.mem_of_getElem? hx)) (ih (by omega)) (hf _ (List.mem_of_getElem? hx))
def SpI (n : Nat) (v : PView) (l : List PRec) (r : PRec) (s t1 : PState) (b1 b2 b3 b4 : Nat) (t : Nat → AV) (h : Nat → Option (List AV)) : Prop := ∃ (k : Nat) (tg : Tag), t 1 = .sl .no (eRs l) ∧ t 3 = .ptr b1 0 ∧ t 5 = .ptr b2 0 ∧ t 7 = .ptr b3 0 ∧ t 8 = .ptr b4 0 ∧ t 9 = .sl tg (eRs (l ++ [r])) ∧ t 58 = eI n ∧ t 59 = eI k ∧ k ≤ n ∧ h b1 = some (eV v) ∧ h b2 = some (eRc r) ∧ h b3 = some (eSt s) ∧ h b4 = some (eSt t1)
def SpM (v : PView) (l : List PRec) (r : PRec) (s t1 : PState) (b1 b2 b3 b4 : Nat) (t : Nat → AV) (h : Nat → Option (List AV)) : Prop := ∃ tg : Tag, t 1 = .sl .no (eRs l) ∧ t 3 = .ptr b1 0 ∧ t 5 = .ptr b2 0 ∧ t 7 = .ptr b3 0 ∧ t 8 = .ptr b4 0 ∧ t 9 = .sl tg (eRs (l ++ [r])) ∧ h b1 = some (eV v) ∧ h b2 = some (eRc r) ∧ h b3 = some (eSt s) ∧ h b4 = some (eSt t1)
theorem steps12_law (v : PView) (l : List PRec) (r : PRec) (hf : ∀ r ∈ l, fitR r) (hfr : fitR r) (hl : l.length ≤ 1048576) : ASpec Tryz.prog 13 [.agg (eV v), .sl .no (eRs l), .agg (eRc r)] (· = .v (.bool true)) := by
  refine ASpec.of_awp Tryz.func13 (by kernel_rfl) rfl (by rw [Tryz.results13]) Tryz.ntmps13 ?_
  simp -implicitDefEqProofs [eV, eRc]
  refine allocK.intro (fun b1 hb1 => ?_)
  simp -implicitDefEqProofs
  refine allocK.intro (fun b2 hb2 => ?_)
  have n12 : ¬ b1 = b2 := by rintro rfl; simp at hb2
  have n21 : ¬ b2 = b1 := fun h => n12 h.symm
  simp -implicitDefEqProofs [n12, n21]
  refine CallK.eq alive12_spec ?_
  simp -implicitDefEqProofs [n12, n21]
  intro _
  by_cases h60 : 60 < l.length
  · have h60' : (60 : Int) < (l.length : Int) := by omega
    simp -implicitDefEqProofs [n12, n21, h60, h60']
  have h60' : ¬ (60 : Int) < (l.length : Int) := by omega
  simp -implicitDefEqProofs [n12, n21, h60, h60']
  refine CallK.with (right12_spec v l hf (by omega)) (by simp [eV]) ?_
  cases hr : (l.all rightR && rightV v)
  · simp -implicitDefEqProofs
  obtain ⟨hr1, hv⟩ := right12_of hr
  simp -implicitDefEqProofs [n12, n21]
  refine CallK.with (right9r_spec r hfr) (by simp [eRc]) ?_
  cases hrr : rightR r
  · simp -implicitDefEqProofs
  have hfold := fold_spec v l hv hr1 (by omega)
  have hok := okT_fold hv hr1 l.length (Nat.le_refl _)
  have hfit := fit_fold hv hr1 hf l.length (Nat.le_refl _)
  rw [List.take_length] at hok hfit
  have hap := apply_spec (foldS v l) r (hok.ok (by omega)) (right_cell hrr).1 (hok.news hrr)
  have hok2 := okT_apply hok hrr
  have hfit2 := fit_apply hok hrr hfit hfr
  have hall : ∀ x ∈ l ++ [r], rightR x = true := fun x hx => by
    rcases List.mem_append.1 hx with h | h
    · exact hr1 x h
    · simp at h; rw [h]; exact hrr
  have hof1 := of12_spec v l hv hr1 (by omega)
  have hof2 := of12_spec v (l ++ [r]) hv hall (by simp; omega)
  rw [state_eq hv hr1] at hof1
  rw [state_eq hv hall, show foldS v (l ++ [r]) = applyS (foldS v l) r by unfold foldS; rw [List.foldl_append]; rfl] at hof2
  generalize foldS v l = s at *
  generalize applyS s r = t1 at *
  simp -implicitDefEqProofs [n12, n21]
  refine CallK.with hfold (by simp [eV]) ?_
  simp -implicitDefEqProofs [eSt]
  refine allocK.intro (fun b3 hb3 => ?_)
  have n13 : ¬ b1 = b3 := by rintro rfl; simp [n12] at hb3
  have n31 : ¬ b3 = b1 := fun h => n13 h.symm
  have n23 : ¬ b2 = b3 := by rintro rfl; simp at hb3
  have n32 : ¬ b3 = b2 := fun h => n23 h.symm
  simp -implicitDefEqProofs [n12, n21, n13, n31, n23, n32]
  refine CallK.with hap (by simp [eSt, eRc]) ?_
  simp -implicitDefEqProofs [eSt]
  refine allocK.intro (fun b4 hb4 => ?_)
  have n14 : ¬ b1 = b4 := by rintro rfl; simp [n12, n13] at hb4
  have n41 : ¬ b4 = b1 := fun h => n14 h.symm
  have n24 : ¬ b2 = b4 := by rintro rfl; simp [n23] at hb4
  have n42 : ¬ b4 = b2 := fun h => n24 h.symm
  have n34 : ¬ b3 = b4 := by rintro rfl; simp at hb4
  have n43 : ¬ b4 = b3 := fun h => n34 h.symm
  simp -implicitDefEqProofs [n12, n21, n13, n31, n23, n32, n14, n41, n24, n42, n34, n43]
  refine regionK.intro 6 follows_mixed (by kernel_rfl) ?_
  simp -implicitDefEqProofs [n12, n21, n13, n31, n23, n32, n14, n41, n24, n42, n34, n43]
  refine ⟨by omega, by omega, ?_⟩
  refine regionK.intro 14 follows_mixed (by kernel_rfl) ?_
  simp -implicitDefEqProofs [n12, n21, n13, n31, n23, n32, n14, n41, n24, n42, n34, n43]
  refine CallQ.with hof1 (by simp [eV]) ?_
  simp -implicitDefEqProofs [n12, n21, n13, n31, n23, n32, n14, n41, n24, n42, n34, n43]
  refine CallQ.with (same12_spec s s hfit hfit) (by simp [eSt]) ?_
  rw [sameSt_self]
  simp -implicitDefEqProofs [n12, n21, n13, n31, n23, n32, n14, n41, n24, n42, n34, n43]
  refine CallQ.with hof2 (by simp [eV, eRs, eRc]) ?_
  simp -implicitDefEqProofs [n12, n21, n13, n31, n23, n32, n14, n41, n24, n42, n34, n43]
  refine CallQ.with (same12_spec t1 t1 hfit2 hfit2) (by simp [eSt]) ?_
  rw [sameSt_self]
  simp -implicitDefEqProofs [n12, n21, n13, n31, n23, n32, n14, n41, n24, n42, n34, n43]
  have hbn := book_new t1 r.view (hok2.ok (by omega)) (right_cell hrr).1
  have hbl : (bookS t1 r.view).length ≤ 100000 := by
    have := hok2.bookOk r.view
    rw [bookS_look hok2.sb]
    cases hlk : lookK keyVB t1.books (nameV r.view) with
    | none => simp
    | some x => have := hok2.bl x (look_some hlk).1; simp; omega
  generalize bookS t1 r.view = bk at *
  refine CallK.via hbn (by simp [eSt, eV]) ?_
  rintro r0 hnew
  have hsl : ∃ tag, r0 = AV.sl tag (eEs bk) := by
    rcases hnew with ⟨h0, tag, _, rfl⟩ | ⟨_, rfl⟩
    · exact ⟨tag, by rw [h0]⟩
    · exact ⟨_, rfl⟩
  obtain ⟨tg0, rfl⟩ := hsl
  simp -implicitDefEqProofs [n12, n21, n13, n31, n23, n32, n14, n41, n24, n42, n34, n43]
  intro _
  refine loopK.post (SpI bk.length v l r s t1 b1 b2 b3 b4) (fun t => bk.length - natOf (t 59)) (SpM v l r s t1 b1 b2 b3 b4) ?_ ?_ ?_
  · exact ⟨0, _, by simp, by simp, by simp, by simp, by simp, by simp [eRs, eRc]; rfl, by simp, by simp, by omega, by simp [n12, n21, n13, n31, n23, n32, n14, n41, n24, n42, n34, n43, eV], by simp [n12, n21, n13, n31, n23, n32, n14, n41, n24, n42, n34, n43, eRc], by simp [n12, n21, n13, n31, n23, n32, n14, n41, n24, n42, n34, n43, eSt], by simp [n12, n21, n13, n31, n23, n32, n14, n41, n24, n42, n34, n43, eSt]⟩
  · rintro t hh ⟨k, tg, g1, g3, g5, g7, g8, g9, g58, g59, hk, c1, c2, c3, c4⟩
    by_cases hlt : k < bk.length
    · have hlt' : (k : Int) < (bk.length : Int) := by omega
      have hw : IntKind.i64.wrap ((k : Int) + 1) = ((k + 1 : Nat) : Int) := by rw [w64 (by omega) (by omega)]; omega
      have c2' := c2
      have c4' := c4
      rw [eRc] at c2'
      rw [eSt] at c4'
      simp -implicitDefEqProofs [g58, g59, hlt', g8, c4', g5, c2']
      refine CallK.thaw hbn (by simp [eSt, eV]) ?_
      rintro r (⟨h0, tag, htag, rfl⟩ | ⟨hne, rfl⟩)
      · exfalso
        have : bk = [] := by simpa [eEs] using h0
        rw [this] at hlt; simp at hlt
      · right
        refine ⟨_, _, _, _, rfl, hne, .inl rfl, fun b5 cap spare hb5 hcap hsp => ?_⟩
        have n15 : ¬ b1 = b5 := by rintro rfl; simp [c1] at hb5
        have n25 : ¬ b2 = b5 := by rintro rfl; simp [c2] at hb5
        have n35 : ¬ b3 = b5 := by rintro rfl; simp [c3] at hb5
        have n45 : ¬ b4 = b5 := by rintro rfl; simp [c4] at hb5
        have hz : bk.length * 4 ≤ ((eEs bk).flatten.map dead1 ++ spare.map AV.v).length := by
          rw [List.length_append, List.length_map, eEs_flat]; omega
        generalize (eEs bk).flatten.map dead1 ++ spare.map AV.v = z at *
        have hz1 : k * 4 + 1 ≤ z.length := by omega
        have hz2 : k * 4 + 0 + 1 ≤ z.length := by omega
        simp -implicitDefEqProofs [g59, hlt, hz1, hz2, hw]
        exact ⟨⟨k + 1, tg, by simp [g1], by simp [g3], by simp [g5], by simp [g7], by simp [g8], by simp [g9], by simp [g58], by simp, by omega, by simp [n15, c1], by simp [n25, c2], by simp [n35, c3], by simp [n45, c4]⟩, by omega⟩
    · have hlt' : ¬ (k : Int) < (bk.length : Int) := by omega
      simp -implicitDefEqProofs [g58, g59, hlt']
      exact ⟨tg, by simp [g1], by simp [g3], by simp [g5], by simp [g7], by simp [g8], by simp [g9], c1, c2, c3, c4⟩
  rintro t hh ⟨tg, g1, g3, g5, g7, g8, g9, c1, c2, c3, c4⟩
  rw [eV] at c1
  rw [eSt] at c3 c4
  simp -implicitDefEqProofs [g1, g3, g5, g7, g8, g9, c1, c3, c4]
  refine regionK.intro 14 follows_mixed (by kernel_rfl) ?_
  simp -implicitDefEqProofs [g1, g3, g5, g7, g8, g9, c1, c3, c4]
  refine CallQ.with hof2 (by simp [eV]) ?_
  simp -implicitDefEqProofs [g1, g3, g5, g7, g8, g9, c1, c3, c4]
  refine CallQ.with (same12_spec t1 t1 hfit2 hfit2) (by simp [eSt]) ?_
  rw [sameSt_self]
  simp -implicitDefEqProofs [g1, g3, g5, g7, g8, g9, c1, c3, c4]
  refine CallQ.with (foldsame_spec s t1) (by simp [eSt]) ?_
  simp -implicitDefEqProofs [g1, g3, g5, g7, g8, g9, c1, c3, c4]
  refine CallQ.with (same12_spec s t1 hfit hfit2) (by simp [eSt]) ?_
  simp -implicitDefEqProofs [g1, g3, g5, g7, g8, g9, c1, c3, c4]
end Go.Proofs.YtjbbfiagijjdoaaGreat

/- Contracts: the document's: what a node answers. No condition. -/
set_option linter.unusedSimpArgs false
set_option linter.unusedVariables false
set_option maxRecDepth 10000
namespace Go.Proofs.YtjbbfiagijjdoaaGreat
open Go Go.Rw Go.Proofs
-- a goal is never to be run by the elaborator
attribute [local irreducible] awp aops aop aopsE aeff

theorem find_congr {α : Type} {p q : α → Bool} : ∀ {l : List α}, (∀ x ∈ l, p x = q x) → l.find? p = l.find? q
  | [], _ => rfl
  | x :: l, h => by
    rw [List.find?_cons, List.find?_cons, h x (by simp), find_congr (fun y hy => h y (by simp [hy]))]
def Bk13 (s : PState) (v : PView) : List PEntry := ((s.books.find? fun x => decide (x.view = v)).map (·.book)).getD []
def Ce13 (s : PState) (v : PView) : List PCell := ((s.cells.find? fun x => decide (x.view = v)).map (·.cells)).getD []
theorem bk13_eq {s : PState} (hs : sortK keyVB s.books) (hr : ∀ x ∈ s.books, rightV x.view = true) {v : PView} (hv : rightV v = true) : Bk13 s v = bookS s v := by
  rw [bookS_look hs]
  unfold Bk13 lookK
  congr 2
  apply find_congr
  intro x hx
  by_cases h : x.view = v
  · simp [h, keyVB]
  · have : ¬ keyVB x = nameV v := fun h2 => h (name_inj (hr x hx) hv h2)
    simp [h, this]
theorem ce13_eq {s : PState} (hs : sortK keyVC s.cells) (hr : ∀ x ∈ s.cells, rightV x.view = true) {v : PView} (hv : rightV v = true) : Ce13 s v = cellsS s v := by
  rw [cellsS_look hs]
  unfold Ce13 lookK
  congr 2
  apply find_congr
  intro x hx
  by_cases h : x.view = v
  · simp [h, keyVC]
  · have : ¬ keyVC x = nameV v := fun h2 => h (name_inj (hr x hx) hv h2)
    simp [h, this]
def B13I (s : PState) (v : PView) (b2 : Nat) (t : Nat → AV) (h : Nat → Option (List AV)) : Prop := ∃ k : Nat, t 3 = .ptr b2 0 ∧ t 8 = .sl .no (rowsVB s.books) ∧ t 9 = eI s.books.length ∧ t 10 = eI k ∧ k ≤ s.books.length ∧ h b2 = some (eV v) ∧ ∀ y ∈ s.books.take k, ¬ y.view = v
theorem book13_spec (s : PState) (v : PView) : ASpec Tryz.prog 73 [.agg (eSt s), .agg (eV v)] (fun r => ∃ tag, r = .sl tag (eEs (Bk13 s v))) := by
  refine ASpec.of_awp Tryz.func73 (by kernel_rfl) rfl (by rw [Tryz.results73]) Tryz.ntmps73 ?_
  simp -implicitDefEqProofs [eSt, eV]
  refine allocK.intro (fun b1 hb1 => ?_)
  simp -implicitDefEqProofs
  refine allocK.intro (fun b2 hb2 => ?_)
  have n12 : ¬ b1 = b2 := by rintro rfl; simp at hb2
  have n21 : ¬ b2 = b1 := fun h => n12 h.symm
  simp -implicitDefEqProofs [n12, n21]
  intro _
  refine loopK.post (B13I s v b2) (fun t => s.books.length - natOf (t 10)) (fun _ _ => Bk13 s v = []) ?_ ?_ ?_
  · exact ⟨0, by simp, by simp [rowsVB], by simp, by simp, by omega, by simp [eV], by simp⟩
  · rintro t hh ⟨k, g3, g8, g9, g10, hk, c2, hno⟩
    by_cases hlt : k < s.books.length
    · have hlt' : (k : Int) < (s.books.length : Int) := by omega
      have hw : IntKind.i64.wrap ((k : Int) + 1) = ((k + 1 : Nat) : Int) := by rw [w64 (by omega) (by omega)]; omega
      obtain ⟨x, hx⟩ : ∃ x, s.books[k]? = some x := ⟨s.books[k], by simp [hlt]⟩
      simp -implicitDefEqProofs [g8, g9, g10, hlt', hx, eVB]
      refine allocK.intro (fun b3 hb3 => ?_)
      have n23 : ¬ b2 = b3 := by rintro rfl; rw [c2] at hb3; simp at hb3
      have n32 : ¬ b3 = b2 := fun h => n23 h.symm
      have c2' := c2
      rw [eV] at c2'
      have hyes : x.view = v → Bk13 s v = x.book := fun h => by
        unfold Bk13
        have : s.books.find? (fun x => decide (x.view = v)) = some x := by
          refine List.find?_eq_some_iff_getElem.2 ⟨by simpa using h, k, hlt, ?_, fun j hj => ?_⟩
          · rw [List.getElem?_eq_getElem hlt] at hx; exact Option.some.inj hx
          · have := hno _ (List.mem_take_iff_getElem.2 ⟨j, by omega, rfl⟩)
            simpa using this
        rw [this]; rfl
      by_cases h2 : x.view.add = v.add
      · by_cases h3 : x.view.del = v.del
        · rw [hyes (view_eq.2 ⟨h2, h3⟩)]
          simp -implicitDefEqProofs [g3, c2', n23, n32, h2, h3]
        · have h3' : (x.view.del == v.del) = false := by simpa using h3
          simp -implicitDefEqProofs [g3, c2', n23, n32, h2, h3, h3', g10, hw]
          refine ⟨⟨k + 1, by simp [g3], by simp [g8], by simp [g9], by simp, by omega, by simp [n23, n32, c2], fun y hy => ?_⟩, by omega⟩
          rw [List.take_add_one, hx] at hy
          rcases List.mem_append.1 hy with h | h
          · exact hno y h
          · simp at h; rw [h]; exact fun h => h3 (view_eq.1 h).2
      · have h2' : (x.view.add == v.add) = false := by simpa using h2
        simp -implicitDefEqProofs [g3, c2', n23, n32, h2, h2', g10, hw]
        refine ⟨⟨k + 1, by simp [g3], by simp [g8], by simp [g9], by simp, by omega, by simp [n23, n32, c2], fun y hy => ?_⟩, by omega⟩
        rw [List.take_add_one, hx] at hy
        rcases List.mem_append.1 hy with h | h
        · exact hno y h
        · simp at h; rw [h]; exact fun h => h2 (view_eq.1 h).1
    · have hlt' : ¬ (k : Int) < (s.books.length : Int) := by omega
      rw [List.take_of_length_le (by omega)] at hno
      simp -implicitDefEqProofs [g9, g10, hlt']
      unfold Bk13
      rw [List.find?_eq_none.2 (fun x hx => by simpa using hno x hx)]
      rfl
  rintro t hh he
  rw [he]
  simp -implicitDefEqProofs
def C13I (s : PState) (v : PView) (b2 : Nat) (t : Nat → AV) (h : Nat → Option (List AV)) : Prop := ∃ k : Nat, t 3 = .ptr b2 0 ∧ t 8 = .sl .no (rowsVC s.cells) ∧ t 9 = eI s.cells.length ∧ t 10 = eI k ∧ k ≤ s.cells.length ∧ h b2 = some (eV v) ∧ ∀ y ∈ s.cells.take k, ¬ y.view = v
theorem cells13_spec (s : PState) (v : PView) : ASpec Tryz.prog 72 [.agg (eSt s), .agg (eV v)] (fun r => ∃ tag, r = .sl tag (eCs (Ce13 s v))) := by
  refine ASpec.of_awp Tryz.func72 (by kernel_rfl) rfl (by rw [Tryz.results72]) Tryz.ntmps72 ?_
  simp -implicitDefEqProofs [eSt, eV]
  refine allocK.intro (fun b1 hb1 => ?_)
  simp -implicitDefEqProofs
  refine allocK.intro (fun b2 hb2 => ?_)
  have n12 : ¬ b1 = b2 := by rintro rfl; simp at hb2
  have n21 : ¬ b2 = b1 := fun h => n12 h.symm
  simp -implicitDefEqProofs [n12, n21]
  intro _
  refine loopK.post (C13I s v b2) (fun t => s.cells.length - natOf (t 10)) (fun _ _ => Ce13 s v = []) ?_ ?_ ?_
  · exact ⟨0, by simp, by simp [rowsVC], by simp, by simp, by omega, by simp [eV], by simp⟩
  · rintro t hh ⟨k, g3, g8, g9, g10, hk, c2, hno⟩
    by_cases hlt : k < s.cells.length
    · have hlt' : (k : Int) < (s.cells.length : Int) := by omega
      have hw : IntKind.i64.wrap ((k : Int) + 1) = ((k + 1 : Nat) : Int) := by rw [w64 (by omega) (by omega)]; omega
      obtain ⟨x, hx⟩ : ∃ x, s.cells[k]? = some x := ⟨s.cells[k], by simp [hlt]⟩
      simp -implicitDefEqProofs [g8, g9, g10, hlt', hx, eVC]
      refine allocK.intro (fun b3 hb3 => ?_)
      have n23 : ¬ b2 = b3 := by rintro rfl; rw [c2] at hb3; simp at hb3
      have n32 : ¬ b3 = b2 := fun h => n23 h.symm
      have c2' := c2
      rw [eV] at c2'
      have hyes : x.view = v → Ce13 s v = x.cells := fun h => by
        unfold Ce13
        have : s.cells.find? (fun x => decide (x.view = v)) = some x := by
          refine List.find?_eq_some_iff_getElem.2 ⟨by simpa using h, k, hlt, ?_, fun j hj => ?_⟩
          · rw [List.getElem?_eq_getElem hlt] at hx; exact Option.some.inj hx
          · have := hno _ (List.mem_take_iff_getElem.2 ⟨j, by omega, rfl⟩)
            simpa using this
        rw [this]; rfl
      by_cases h2 : x.view.add = v.add
      · by_cases h3 : x.view.del = v.del
        · rw [hyes (view_eq.2 ⟨h2, h3⟩)]
          simp -implicitDefEqProofs [g3, c2', n23, n32, h2, h3]
        · have h3' : (x.view.del == v.del) = false := by simpa using h3
          simp -implicitDefEqProofs [g3, c2', n23, n32, h2, h3, h3', g10, hw]
          refine ⟨⟨k + 1, by simp [g3], by simp [g8], by simp [g9], by simp, by omega, by simp [n23, n32, c2], fun y hy => ?_⟩, by omega⟩
          rw [List.take_add_one, hx] at hy
          rcases List.mem_append.1 hy with h | h
          · exact hno y h
          · simp at h; rw [h]; exact fun h => h3 (view_eq.1 h).2
      · have h2' : (x.view.add == v.add) = false := by simpa using h2
        simp -implicitDefEqProofs [g3, c2', n23, n32, h2, h2', g10, hw]
        refine ⟨⟨k + 1, by simp [g3], by simp [g8], by simp [g9], by simp, by omega, by simp [n23, n32, c2], fun y hy => ?_⟩, by omega⟩
        rw [List.take_add_one, hx] at hy
        rcases List.mem_append.1 hy with h | h
        · exact hno y h
        · simp at h; rw [h]; exact fun h => h2 (view_eq.1 h).1
    · have hlt' : ¬ (k : Int) < (s.cells.length : Int) := by omega
      rw [List.take_of_length_le (by omega)] at hno
      simp -implicitDefEqProofs [g9, g10, hlt']
      unfold Ce13
      rw [List.find?_eq_none.2 (fun x hx => by simpa using hno x hx)]
      rfl
  rintro t hh he
  rw [he]
  simp -implicitDefEqProofs
end Go.Proofs.YtjbbfiagijjdoaaGreat

/- Contract: the document's: what a node answers to a message. No condition. -/
set_option linter.unusedSimpArgs false
set_option linter.unusedVariables false
set_option maxRecDepth 10000
namespace Go.Proofs.YtjbbfiagijjdoaaGreat
open Go Go.Rw Go.Proofs
-- a goal is never to be run by the elaborator
attribute [local irreducible] awp aops aop aopsE aeff

theorem newsC_step {old l : List PCell} {k : Nat} {x : PCell} (hx : l[k]? = some x) : newsC old (l.take (k + 1)) = newsC old (l.take k) ++ (if (ofC old x.node).isSome = true then [] else [x]) := by
  unfold newsC
  rw [List.take_add_one, hx, List.filter_append]
  cases h : ofC old x.node <;> simp [h]
def ansN (q : PMsg) : List AV := [eI 7, eI q.to, eI q.frm, eI q.inc, eI q.seq, eI q.view.add, eI q.view.del, .sl .nil [], .sl .nil []]
def S13C (s : PState) (q : PMsg) (old : List PCell) (b1 b2 b3 b4 : Nat) (t : Nat → AV) (h : Nat → Option (List AV)) : Prop := ∃ (k : Nat) (tag : Tag), t 4 = .ptr b1 0 ∧ t 5 = .ptr b2 0 ∧ t 7 = .ptr b3 0 ∧ t 10 = .ptr b4 0 ∧ t 9 = .sl tag (eRs ((newsC old (q.cells.take k)).map (recC q.view))) ∧ appOK tag 66 11 ∧ t 66 = .sl .no (eCs q.cells) ∧ t 67 = eI q.cells.length ∧ t 68 = eI k ∧ k ≤ q.cells.length ∧ h b1 = some (eSt s) ∧ h b2 = some (eM q) ∧ (∃ z, h b3 = some z ∧ z.length = 9) ∧ h b4 = some (ansN q)
def S13E (s : PState) (q : PMsg) (old : List PEntry) (b1 b2 b3 b4 : Nat) (t : Nat → AV) (h : Nat → Option (List AV)) : Prop := ∃ (k : Nat) (tag : Tag), t 4 = .ptr b1 0 ∧ t 5 = .ptr b2 0 ∧ t 7 = .ptr b3 0 ∧ t 10 = .ptr b4 0 ∧ t 9 = .sl tag (eRs ((newsE old (q.book.take k)).map (recE q.view))) ∧ appOK tag 66 11 ∧ t 96 = .sl .no (eEs q.book) ∧ t 97 = eI q.book.length ∧ t 98 = eI k ∧ k ≤ q.book.length ∧ h b1 = some (eSt s) ∧ h b2 = some (eM q) ∧ (∃ z, h b3 = some z ∧ z.length = 9) ∧ h b4 = some (ansN q)
theorem serve13_spec (me : Int) (s : PState) (q : PMsg) (hs : OkS s) (hv : rightV q.view = true) (hl1 : q.cells.length ≤ 1000000) (hl2 : q.book.length ≤ 1000000) : ASpec Tryz.prog 23 [eI me, .agg (eSt s), .agg (eM q)] (· = serveA me s q) := by
  show ASpec Tryz.prog 23 [eI me, .agg (eSt s), .agg (eM q)] (ServeR me s q)
  have hbk := book13_spec s q.view
  have hce := cells13_spec s q.view
  rw [bk13_eq hs.sb hs.rb hv] at hbk
  rw [ce13_eq hs.sc hs.rc hv] at hce
  refine ASpec.of_awp Tryz.func23 (by kernel_rfl) rfl (by rw [Tryz.results23]) Tryz.ntmps23 ?_
  simp -implicitDefEqProofs [eM, eSt]
  refine allocK.intro (fun b1 hb1 => ?_)
  simp -implicitDefEqProofs
  refine allocK.intro (fun b2 hb2 => ?_)
  have n12 : ¬ b1 = b2 := by rintro rfl; simp at hb2
  have n21 : ¬ b2 = b1 := fun h => n12 h.symm
  simp -implicitDefEqProofs [n12, n21]
  refine allocK.intro (fun b3 hb3 => ?_)
  have n13 : ¬ b1 = b3 := by rintro rfl; simp [n12] at hb3
  have n31 : ¬ b3 = b1 := fun h => n13 h.symm
  have n23 : ¬ b2 = b3 := by rintro rfl; simp at hb3
  have n32 : ¬ b3 = b2 := fun h => n23 h.symm
  by_cases h1 : q.to = me
  rotate_left
  · simp -implicitDefEqProofs [n12, n21, n13, n31, n23, n32, h1]
    exact ServeR.no (fun h => h1 h.1)
  by_cases h2 : q.kind < 0
  · simp -implicitDefEqProofs [n12, n21, n13, n31, n23, n32, h1, h2]
    exact ServeR.no (by rintro ⟨_, h3, h4⟩; omega)
  by_cases h3 : 4 < q.kind
  · simp -implicitDefEqProofs [n12, n21, n13, n31, n23, n32, h1, h2, h3]
    exact ServeR.no (by rintro ⟨_, h3, h4⟩; omega)
  simp -implicitDefEqProofs [n12, n21, n13, n31, n23, n32, h1, h2, h3]
  refine allocK.intro (fun b4 hb4 => ?_)
  have n14 : ¬ b1 = b4 := by rintro rfl; simp [n12, n13] at hb4
  have n41 : ¬ b4 = b1 := fun h => n14 h.symm
  have n24 : ¬ b2 = b4 := by rintro rfl; simp [n23] at hb4
  have n42 : ¬ b4 = b2 := fun h => n24 h.symm
  have n34 : ¬ b3 = b4 := by rintro rfl; simp at hb4
  have n43 : ¬ b4 = b3 := fun h => n34 h.symm
  by_cases k0 : q.kind = 0
  · simp -implicitDefEqProofs [n12, n21, n13, n31, n23, n32, n14, n41, n24, n42, n34, n43, k0]
    refine CallK.via hce (by simp [eSt, eV]) ?_
    rintro _ ⟨tag, rfl⟩
    simp -implicitDefEqProofs [n12, n21, n13, n31, n23, n32, n14, n41, n24, n42, n34, n43, k0]
    refine regionK.intro 3 follows_mixed (by kernel_rfl) ?_
    simp -implicitDefEqProofs [n12, n21, n13, n31, n23, n32, n14, n41, n24, n42, n34, n43, k0]
    refine ServeR.yes h1 (by omega) (by omega) ?_
    simp [wroteS, tellS, ansM, eM, k0, h1]
  by_cases k2 : q.kind = 2
  · simp -implicitDefEqProofs [n12, n21, n13, n31, n23, n32, n14, n41, n24, n42, n34, n43, k0, k2]
    refine CallK.via hbk (by simp [eSt, eV]) ?_
    rintro _ ⟨tag, rfl⟩
    simp -implicitDefEqProofs [n12, n21, n13, n31, n23, n32, n14, n41, n24, n42, n34, n43, k0, k2]
    refine regionK.intro 3 follows_mixed (by kernel_rfl) ?_
    simp -implicitDefEqProofs [n12, n21, n13, n31, n23, n32, n14, n41, n24, n42, n34, n43, k0, k2]
    refine ServeR.yes h1 (by omega) (by omega) ?_
    simp [wroteS, tellS, ansM, eM, k0, k2, h1]
  by_cases k1 : q.kind = 1
  · simp -implicitDefEqProofs [n12, n21, n13, n31, n23, n32, n14, n41, n24, n42, n34, n43, k0, k2, k1]
    intro _
    refine loopK.intro (S13C s q (cellsS s q.view) b1 b2 b3 b4) (fun t => q.cells.length - natOf (t 68)) ?_ ?_
    · exact ⟨0, _, by simp, by simp, by simp, by simp, by simp [newsC]; rfl, by simp, by simp, by simp, by simp, by omega, by simp [n12, n21, n13, n31, n23, n32, n14, n41, n24, n42, n34, n43, eSt], by simp [n12, n21, n13, n31, n23, n32, n14, n41, n24, n42, n34, n43, eM, k0, k2, k1, h1], ⟨_, by simp [n12, n21, n13, n31, n23, n32, n14, n41, n24, n42, n34, n43]; rfl, rfl⟩, by simp [n12, n21, n13, n31, n23, n32, n14, n41, n24, n42, n34, n43, ansN, h1]⟩
    rintro t hh ⟨k, tag, g4, g5, g7, g10, g9, gt, gr, gl, gk, hk, c1, c2, ⟨z, c3, hz⟩, c4⟩
    by_cases hlt : k < q.cells.length
    · have hlt' : (k : Int) < (q.cells.length : Int) := by omega
      have hw : IntKind.i64.wrap ((k : Int) + 1) = ((k + 1 : Nat) : Int) := by rw [w64 (by omega) (by omega)]; omega
      obtain ⟨x, hx⟩ : ∃ x, q.cells[k]? = some x := ⟨q.cells[k], by simp [hlt]⟩
      have hst := newsC_step (old := cellsS s q.view) hx
      have hnl : (newsC (cellsS s q.view) (q.cells.take k)).length ≤ k := by
        have := List.length_filter_le (fun c => !(ofC (cellsS s q.view) c.node).isSome) (q.cells.take k)
        rw [List.length_take] at this
        exact Nat.le_trans this (by omega)
      have c1' := c1
      have c2' := c2
      rw [eSt] at c1'
      rw [eM] at c2'
      simp -implicitDefEqProofs [gr, gl, gk, hlt', hx, eC]
      refine allocK.intro (fun b5 hb5 => ?_)
      have n15 : ¬ b1 = b5 := by rintro rfl; rw [c1] at hb5; simp at hb5
      have n51 : ¬ b5 = b1 := fun h => n15 h.symm
      have n25 : ¬ b2 = b5 := by rintro rfl; rw [c2] at hb5; simp at hb5
      have n52 : ¬ b5 = b2 := fun h => n25 h.symm
      have n35 : ¬ b3 = b5 := by rintro rfl; rw [c3] at hb5; simp at hb5
      have n53 : ¬ b5 = b3 := fun h => n35 h.symm
      have n45 : ¬ b4 = b5 := by rintro rfl; rw [c4] at hb5; simp at hb5
      have n54 : ¬ b5 = b4 := fun h => n45 h.symm
      simp -implicitDefEqProofs [n15, n51, n25, n52, n35, n53, n45, n54]
      refine regionK.modes [] [.q, .q, .q, .q, .q, .q, .q, .q, .q, .q, .l, .s, .r] follows_mixed (by kernel_rfl) ?_
      simp -implicitDefEqProofs [g4, g5, c1', c2', n15, n51, n25, n52, n35, n53, n45, n54]
      refine CallQ.take2 (x := .sl .no (eCs (cellsS s q.view))) hce (by simp [eSt, eV]) (by rintro _ ⟨tag, rfl⟩; rfl) ?_
      simp -implicitDefEqProofs [g4, g5, c1', c2', n15, n51, n25, n52, n35, n53, n45, n54]
      refine CallQ.eq (of10_spec (cellsS s q.view) x.node) ?_
      rw [ofA]
      simp -implicitDefEqProofs [n15, n51, n25, n52, n35, n53, n45, n54, eV]
      refine allocK.intro (fun b6 hb6 => ?_)
      have n16 : ¬ b1 = b6 := by rintro rfl; simp [n15, n51, n25, n52, n35, n53, n45, n54, c1] at hb6
      have n61 : ¬ b6 = b1 := fun h => n16 h.symm
      have n26 : ¬ b2 = b6 := by rintro rfl; simp [n15, n51, n25, n52, n35, n53, n45, n54, c2] at hb6
      have n62 : ¬ b6 = b2 := fun h => n26 h.symm
      have n36 : ¬ b3 = b6 := by rintro rfl; simp [n15, n51, n25, n52, n35, n53, n45, n54, c3] at hb6
      have n63 : ¬ b6 = b3 := fun h => n36 h.symm
      have n46 : ¬ b4 = b6 := by rintro rfl; simp [n15, n51, n25, n52, n35, n53, n45, n54, c4] at hb6
      have n64 : ¬ b6 = b4 := fun h => n46 h.symm
      have n56 : ¬ b5 = b6 := by rintro rfl; simp at hb6
      have n65 : ¬ b6 = b5 := fun h => n56 h.symm
      cases hf : (ofC (cellsS s q.view) x.node).isSome
      · rw [hf] at hst
        simp only [Bool.false_eq_true, if_false] at hst
        simp -implicitDefEqProofs [n15, n51, n25, n52, n35, n53, n45, n54, n16, n61, n26, n62, n36, n63, n46, n64, n56, n65, g4, g5, g9, gt, c1', c2', gk, hw]
        refine ⟨by omega, ⟨k + 1, appTag tag 66 11 [eRc (recC q.view x)], by simp [g4], by simp [g5], by simp [g7], by simp [g10], ?_, by simp [gt], by simp [gr], by simp [gl], by simp, by omega, by simp [n15, n51, n25, n52, n35, n53, n45, n54, n16, n61, n26, n62, n36, n63, n46, n64, n56, n65, c1], by simp [n15, n51, n25, n52, n35, n53, n45, n54, n16, n61, n26, n62, n36, n63, n46, n64, n56, n65, c2], ⟨z, by simp [n15, n51, n25, n52, n35, n53, n45, n54, n16, n61, n26, n62, n36, n63, n46, n64, n56, n65, c3], hz⟩, by simp [n15, n51, n25, n52, n35, n53, n45, n54, n16, n61, n26, n62, n36, n63, n46, n64, n56, n65, c4]⟩, by omega⟩
        rw [hst]; simp [eRs, eRc, recC, zC, zE]
      · rw [hf] at hst
        simp only [if_true, List.append_nil] at hst
        simp -implicitDefEqProofs [n15, n51, n25, n52, n35, n53, n45, n54, n16, n61, n26, n62, n36, n63, n46, n64, n56, n65, gk, hw]
        exact ⟨⟨k + 1, tag, by simp [g4], by simp [g5], by simp [g7], by simp [g10], by simp [g9, hst], gt, by simp [gr], by simp [gl], by simp, by omega, by simp [n15, n51, n25, n52, n35, n53, n45, n54, n16, n61, n26, n62, n36, n63, n46, n64, n56, n65, c1], by simp [n15, n51, n25, n52, n35, n53, n45, n54, n16, n61, n26, n62, n36, n63, n46, n64, n56, n65, c2], ⟨z, by simp [n15, n51, n25, n52, n35, n53, n45, n54, n16, n61, n26, n62, n36, n63, n46, n64, n56, n65, c3], hz⟩, by simp [n15, n51, n25, n52, n35, n53, n45, n54, n16, n61, n26, n62, n36, n63, n46, n64, n56, n65, c4]⟩, by omega⟩
    · have hlt' : ¬ (k : Int) < (q.cells.length : Int) := by omega
      rw [List.take_of_length_le (by omega)] at g9
      rw [ansN] at c4
      have c2' := c2
      rw [eM] at c2'
      simp -implicitDefEqProofs [gl, gk, hlt', g5, c2', k0, k2, k1]
      refine regionK.intro 3 follows_mixed (by kernel_rfl) ?_
      simp -implicitDefEqProofs [g9, g7, g10, c3, c4, hz, n34, n43]
      refine ServeR.yes h1 (by omega) (by omega) ?_
      simp [wroteS, tellS, ansM, eM, k0, k2, k1, h1]
  by_cases k3 : q.kind = 3
  · simp -implicitDefEqProofs [n12, n21, n13, n31, n23, n32, n14, n41, n24, n42, n34, n43, k0, k2, k1, k3]
    intro _
    refine loopK.intro (S13E s q (bookS s q.view) b1 b2 b3 b4) (fun t => q.book.length - natOf (t 98)) ?_ ?_
    · exact ⟨0, _, by simp, by simp, by simp, by simp, by simp [newsE]; rfl, by simp, by simp, by simp, by simp, by omega, by simp [n12, n21, n13, n31, n23, n32, n14, n41, n24, n42, n34, n43, eSt], by simp [n12, n21, n13, n31, n23, n32, n14, n41, n24, n42, n34, n43, eM, k0, k2, k1, k3, h1], ⟨_, by simp [n12, n21, n13, n31, n23, n32, n14, n41, n24, n42, n34, n43]; rfl, rfl⟩, by simp [n12, n21, n13, n31, n23, n32, n14, n41, n24, n42, n34, n43, ansN, h1]⟩
    rintro t hh ⟨k, tag, g4, g5, g7, g10, g9, gt, gr, gl, gk, hk, c1, c2, ⟨z, c3, hz⟩, c4⟩
    by_cases hlt : k < q.book.length
    · have hlt' : (k : Int) < (q.book.length : Int) := by omega
      have hw : IntKind.i64.wrap ((k : Int) + 1) = ((k + 1 : Nat) : Int) := by rw [w64 (by omega) (by omega)]; omega
      obtain ⟨x, hx⟩ : ∃ x, q.book[k]? = some x := ⟨q.book[k], by simp [hlt]⟩
      have hst := newsE_step (old := bookS s q.view) hx
      have hnl : (newsE (bookS s q.view) (q.book.take k)).length ≤ k := by
        have := List.length_filter_le (fun x => lessT (findE (bookS s q.view) x.key).tag x.tag) (q.book.take k)
        rw [List.length_take] at this
        exact Nat.le_trans this (by omega)
      have c1' := c1
      have c2' := c2
      rw [eSt] at c1'
      rw [eM] at c2'
      simp -implicitDefEqProofs [gr, gl, gk, hlt', hx, eE]
      refine allocK.intro (fun b5 hb5 => ?_)
      have n15 : ¬ b1 = b5 := by rintro rfl; rw [c1] at hb5; simp at hb5
      have n51 : ¬ b5 = b1 := fun h => n15 h.symm
      have n25 : ¬ b2 = b5 := by rintro rfl; rw [c2] at hb5; simp at hb5
      have n52 : ¬ b5 = b2 := fun h => n25 h.symm
      have n35 : ¬ b3 = b5 := by rintro rfl; rw [c3] at hb5; simp at hb5
      have n53 : ¬ b5 = b3 := fun h => n35 h.symm
      have n45 : ¬ b4 = b5 := by rintro rfl; rw [c4] at hb5; simp at hb5
      have n54 : ¬ b5 = b4 := fun h => n45 h.symm
      simp -implicitDefEqProofs [n15, n51, n25, n52, n35, n53, n45, n54]
      refine regionK.intro 11 follows_mixed (by kernel_rfl) ?_
      simp -implicitDefEqProofs [g4, g5, c1', c2', n15, n51, n25, n52, n35, n53, n45, n54]
      refine CallQ.take2 (x := .sl .no (eEs (bookS s q.view))) hbk (by simp [eSt, eV]) (by rintro _ ⟨tag, rfl⟩; rfl) ?_
      simp -implicitDefEqProofs [g4, g5, c1', c2', n15, n51, n25, n52, n35, n53, n45, n54]
      refine CallQ.eq (find7_spec (bookS s q.view) x.key) ?_
      simp -implicitDefEqProofs [eE, g4, g5, c1', c2', n15, n51, n25, n52, n35, n53, n45, n54]
      refine CallQ.with (less6_spec (findE (bookS s q.view) x.key).tag x.tag) (by simp [eT]) ?_
      cases hf : lessT (findE (bookS s q.view) x.key).tag x.tag
      · rw [hf] at hst
        simp only [Bool.false_eq_true, if_false, List.append_nil] at hst
        simp -implicitDefEqProofs [n15, n51, n25, n52, n35, n53, n45, n54, gk, hw]
        exact ⟨⟨k + 1, tag, by simp [g4], by simp [g5], by simp [g7], by simp [g10], by simp [g9, hst], gt, by simp [gr], by simp [gl], by simp, by omega, by simp [n15, n51, n25, n52, n35, n53, n45, n54, c1], by simp [n15, n51, n25, n52, n35, n53, n45, n54, c2], ⟨z, by simp [n15, n51, n25, n52, n35, n53, n45, n54, c3], hz⟩, by simp [n15, n51, n25, n52, n35, n53, n45, n54, c4]⟩, by omega⟩
      · rw [hf] at hst
        simp only [if_true] at hst
        simp -implicitDefEqProofs [n15, n51, n25, n52, n35, n53, n45, n54, g4, g5, g9, gt, c1', c2', gk, hw]
        refine ⟨by omega, ⟨k + 1, appTag tag 66 11 [eRc (recE q.view x)], by simp [g4], by simp [g5], by simp [g7], by simp [g10], ?_, by simp [gt], by simp [gr], by simp [gl], by simp, by omega, by simp [n15, n51, n25, n52, n35, n53, n45, n54, c1], by simp [n15, n51, n25, n52, n35, n53, n45, n54, c2], ⟨z, by simp [n15, n51, n25, n52, n35, n53, n45, n54, c3], hz⟩, by simp [n15, n51, n25, n52, n35, n53, n45, n54, c4]⟩, by omega⟩
        rw [hst]; simp [eRs, eRc, recE, zC, zE]
    · have hlt' : ¬ (k : Int) < (q.book.length : Int) := by omega
      rw [List.take_of_length_le (by omega)] at g9
      rw [ansN] at c4
      have c2' := c2
      rw [eM] at c2'
      simp -implicitDefEqProofs [gl, gk, hlt', g5, c2', k0, k2, k1, k3]
      refine regionK.intro 3 follows_mixed (by kernel_rfl) ?_
      simp -implicitDefEqProofs [g9, g7, g10, c3, c4, hz, n34, n43]
      refine ServeR.yes h1 (by omega) (by omega) ?_
      simp [wroteS, tellS, ansM, eM, k0, k2, k1, k3, h1]
  have k4 : q.kind = 4 := by omega
  simp -implicitDefEqProofs [n12, n21, n13, n31, n23, n32, n14, n41, n24, n42, n34, n43, k0, k2, k1, k3, k4]
  refine CallK.with (within4_spec s.held q.view hs.rh hv) (by simp [eV]) ?_
  cases hi : withinV s.held q.view
  · simp -implicitDefEqProofs [n12, n21, n13, n31, n23, n32, n14, n41, n24, n42, n34, n43, k0, k2, k1, k3, k4]
    refine regionK.intro 3 follows_mixed (by kernel_rfl) ?_
    simp -implicitDefEqProofs [n12, n21, n13, n31, n23, n32, n14, n41, n24, n42, n34, n43, k0, k2, k1, k3, k4]
    refine ServeR.yes h1 (by omega) (by omega) ?_
    simp [wroteS, tellS, ansM, eM, k0, k2, k1, k3, k4, hi, h1]
  · simp -implicitDefEqProofs [n12, n21, n13, n31, n23, n32, n14, n41, n24, n42, n34, n43, k0, k2, k1, k3, k4]
    refine CallK.with (within4_spec q.view s.held hv hs.rh) (by simp [eV]) ?_
    cases hj : withinV q.view s.held
    · have hne : ¬ s.held = q.view := fun h => by rw [h, withinV_self] at hj; simp at hj
      simp -implicitDefEqProofs [n12, n21, n13, n31, n23, n32, n14, n41, n24, n42, n34, n43, k0, k2, k1, k3, k4]
      refine regionK.intro 3 follows_mixed (by kernel_rfl) ?_
      simp -implicitDefEqProofs [n12, n21, n13, n31, n23, n32, n14, n41, n24, n42, n34, n43, k0, k2, k1, k3, k4]
      refine ServeR.yes h1 (by omega) (by omega) ?_
      simp [wroteS, tellS, ansM, eM, k0, k2, k1, k3, k4, hi, hne, recV, eRs, eRc, zC, zE, h1]
    · have hne : s.held = q.view := within_anti hs.rh hv hi hj
      simp -implicitDefEqProofs [n12, n21, n13, n31, n23, n32, n14, n41, n24, n42, n34, n43, k0, k2, k1, k3, k4]
      refine regionK.intro 3 follows_mixed (by kernel_rfl) ?_
      simp -implicitDefEqProofs [n12, n21, n13, n31, n23, n32, n14, n41, n24, n42, n34, n43, k0, k2, k1, k3, k4]
      refine ServeR.yes h1 (by omega) (by omega) ?_
      simp [wroteS, tellS, ansM, eM, k0, k2, k1, k3, k4, hne, h1]
end Go.Proofs.YtjbbfiagijjdoaaGreat

/- Contracts: what a node answers, in memory of its own. No condition. -/
set_option linter.unusedSimpArgs false
set_option linter.unusedVariables false
set_option maxRecDepth 10000
namespace Go.Proofs.YtjbbfiagijjdoaaGreat
open Go Go.Rw Go.Proofs
-- a goal is never to be run by the elaborator
attribute [local irreducible] awp aops aop aopsE aeff

theorem cells_new (s : PState) (v : PView) (hs : OkS s) (hv : rightV v = true) : ASpec Tryz.prog 40 [.agg (eSt s), .agg (eV v)] (New 48 3 (eCs (cellsS s v))) := by
  refine ASpec.of_awp Tryz.func40 (by kernel_rfl) rfl (by rw [Tryz.results40]) Tryz.ntmps40 ?_
  simp -implicitDefEqProofs [eV, eSt]
  refine allocK.intro (fun b1 hb1 => ?_)
  simp -implicitDefEqProofs
  refine allocK.intro (fun b2 hb2 => ?_)
  have n12 : ¬ b1 = b2 := by rintro rfl; simp at hb2
  have n21 : ¬ b2 = b1 := fun h => n12 h.symm
  simp -implicitDefEqProofs [n12, n21]
  refine regionK.intro 10 follows_mixed (by kernel_rfl) ?_
  simp -implicitDefEqProofs [n12, n21]
  refine CallQ.with shelvedVC_spec rfl ?_
  simp -implicitDefEqProofs [n12, n21]
  refine CallQ.with (placeVC_spec s.cells v hs.sc (by have := hs.lc; omega) hs.rc hv) (by simp [eV, rowsVC]) ?_
  have hat := hasK_at hs.sc (nameV v)
  rcases hat with ⟨x, hx, hk, hh⟩ | ⟨_, hh⟩
  · have hb : cellsS s v = x.cells := by unfold cellsS; rw [hx, hh]; simp
    rw [hh, hb]
    have hlt : posK keyVC s.cells (nameV v) < s.cells.length := by
      rcases Nat.lt_or_ge (posK keyVC s.cells (nameV v)) s.cells.length with h | h
      · exact h
      · rw [List.getElem?_eq_none h] at hx; simp at hx
    have hbl := hs.cl x (List.mem_of_getElem? hx)
    generalize posK keyVC s.cells (nameV v) = p at *
    have hlt' : (p : Int) < (s.cells.length : Int) := by omega
    simp -implicitDefEqProofs [n12, n21, hx, hlt', eVC]
    refine CallK.via (clone_cells_new x.cells (by omega)) rfl ?_
    rintro _ (⟨h0, tag, htag, rfl⟩ | ⟨hne, rfl⟩)
    · simp -implicitDefEqProofs
      exact .inl ⟨by simpa using h0, _, htag, rfl⟩
    · simp -implicitDefEqProofs
      exact .inr ⟨hne, rfl⟩
  · have hb : cellsS s v = [] := by unfold cellsS; rw [hh]; split <;> simp
    rw [hh, hb]
    simp -implicitDefEqProofs [n12, n21]
    exact .inl ⟨rfl, _, by simp, rfl⟩
theorem eEs_dead (l : List PEntry) : (eEs l).flatten.map dead1 = (eEs l).flatten := by
  induction l with
  | nil => rfl
  | cons x l ih => simp [eEs, eE, dead1] at *; exact ih
theorem eEs_dead2 (l : List PEntry) : (eEs l).map (List.map dead1) = eEs l := by
  induction l with
  | nil => rfl
  | cons x l ih => simp [eEs, eE, dead1] at *; try exact ih
theorem chunks_entries (l : List PEntry) (sp : List AV) : chunks ((eEs l).flatten ++ sp) (eEs l) 4 := by
  refine ⟨eEs_one l, ?_, ?_, ?_⟩
  · rw [show (eEs l).length * 4 = (eEs l).flatten.length by rw [eEs_flat]; simp, List.take_left, eEs_dead]
  · rw [List.length_append, eEs_flat]; simp
  · intro r hr x hx
    obtain ⟨c, _, rfl⟩ := List.mem_map.1 hr
    simp [eE] at hx
    rcases hx with rfl | rfl | rfl | rfl <;> rfl
/-- a slice of one's own, and what it holds -/
def OwnR (x : AV) (rows : List (List AV)) (sz : Nat) (h : Nat → Option (List AV)) : Prop := (rows = [] ∧ x = .sl .no []) ∨ ∃ b c cells, x = .sm b 0 rows.length c ∧ h b = some cells ∧ chunks cells rows sz
def SvO (me : Int) (s : PState) (q : PMsg) (r : AV) (h' : Nat → Option (List AV)) : Prop := ∃ x1 x2, r = .tup [.sl .no (eRs (wroteS s q)), .agg [eI (tellS me s q).kind, eI me, eI q.frm, eI q.inc, eI q.seq, eI q.view.add, eI q.view.del, x1, x2], .v (.bool true)] ∧
  ((OwnR x1 (eCs (tellS me s q).cells) 3 h' ∧ x2 = .sl .no [] ∧ (tellS me s q).book = []) ∨ (x1 = .sl .no [] ∧ (tellS me s q).cells = [] ∧ OwnR x2 (eEs (tellS me s q).book) 4 h'))
theorem serve_own0 (me : Int) (s : PState) (q : PMsg) (hs : OkS s) (hv : rightV q.view = true) (h1 : q.to = me) (k0 : q.kind = 0) : MSpec Tryz.prog 22 [eI me, .agg (eSt s), .agg (eM q)] (fun _ => none) (SvO me s q) := by
  refine MSpec.of_awp Tryz.func22 (by kernel_rfl) rfl (by rw [Tryz.results22]) Tryz.ntmps22 ?_
  simp -implicitDefEqProofs [eM, eSt]
  refine allocK.intro (fun b1 hb1 => ?_)
  simp -implicitDefEqProofs
  refine allocK.intro (fun b2 hb2 => ?_)
  have n12 : ¬ b1 = b2 := by rintro rfl; simp at hb2
  have n21 : ¬ b2 = b1 := fun h => n12 h.symm
  simp -implicitDefEqProofs [n12, n21]
  refine allocK.intro (fun b3 hb3 => ?_)
  have n13 : ¬ b1 = b3 := by rintro rfl; simp [n12] at hb3
  have n31 : ¬ b3 = b1 := fun h => n13 h.symm
  have n23 : ¬ b2 = b3 := by rintro rfl; simp at hb3
  have n32 : ¬ b3 = b2 := fun h => n23 h.symm
  simp -implicitDefEqProofs [n12, n21, n13, n31, n23, n32, h1]
  refine allocK.intro (fun b4 hb4 => ?_)
  have n14 : ¬ b1 = b4 := by rintro rfl; simp [n12, n13] at hb4
  have n41 : ¬ b4 = b1 := fun h => n14 h.symm
  have n24 : ¬ b2 = b4 := by rintro rfl; simp [n23] at hb4
  have n42 : ¬ b4 = b2 := fun h => n24 h.symm
  have n34 : ¬ b3 = b4 := by rintro rfl; simp at hb4
  have n43 : ¬ b4 = b3 := fun h => n34 h.symm
  simp -implicitDefEqProofs [n12, n21, n13, n31, n23, n32, n14, n41, n24, n42, n34, n43, k0]
  have ew : wroteS s q = [] := wrote_asks (.inl k0)
  have et : tellS me s q = { ansM me q with kind := 5, cells := cellsS s q.view } := by unfold tellS; rw [if_pos k0]
  refine CallK.thaw (cells_new s q.view hs hv) (by simp [eSt, eV]) ?_
  rintro r (⟨h0, tag, htag, rfl⟩ | ⟨hne, rfl⟩)
  · left
    have hl0 : cellsS s q.view = [] := by simpa [eCs] using h0
    simp -implicitDefEqProofs [n12, n21, n13, n31, n23, n32, n14, n41, n24, n42, n34, n43]
    refine regionK.intro 3 follows_mixed (by kernel_rfl) ?_
    simp -implicitDefEqProofs [n12, n21, n13, n31, n23, n32, n14, n41, n24, n42, n34, n43]
    unfold SvO
    rw [ew, et]
    exact ⟨fun _ => none, fun _ _ h => by simp at h, _, _, by simp [ansM], .inl ⟨.inl ⟨by simp [hl0], rfl⟩, rfl, rfl⟩⟩
  · right
    refine ⟨_, _, _, _, rfl, hne, .inl rfl, fun b5 cap spare hb5 hcap hsp => ?_⟩
    have n15 : ¬ b1 = b5 := by rintro rfl; simp [n12, n13, n14] at hb5
    have n51 : ¬ b5 = b1 := fun h => n15 h.symm
    have n25 : ¬ b2 = b5 := by rintro rfl; simp [n23, n24] at hb5
    have n52 : ¬ b5 = b2 := fun h => n25 h.symm
    have n35 : ¬ b3 = b5 := by rintro rfl; simp [n34] at hb5
    have n53 : ¬ b5 = b3 := fun h => n35 h.symm
    have n45 : ¬ b4 = b5 := by rintro rfl; simp at hb5
    have n54 : ¬ b5 = b4 := fun h => n45 h.symm
    have ed := eCs_dead (cellsS s q.view)
    simp -implicitDefEqProofs [n12, n21, n13, n31, n23, n32, n14, n41, n24, n42, n34, n43, n15, n51, n25, n52, n35, n53, n45, n54]
    refine regionK.intro 3 follows_mixed (by kernel_rfl) ?_
    simp -implicitDefEqProofs [n12, n21, n13, n31, n23, n32, n14, n41, n24, n42, n34, n43, n15, n51, n25, n52, n35, n53, n45, n54]
    unfold SvO
    rw [ew, et]
    have ef : (List.map (List.map dead1) (eCs (cellsS s q.view))).flatten = (eCs (cellsS s q.view)).flatten := by rw [eCs_dead2]
    rw [ef]
    refine ⟨one b5 ((eCs (cellsS s q.view)).flatten ++ spare.map AV.v), SubH_one.2 ?_, .sm b5 0 (cellsS s q.view).length cap, .sl .no [], by simp [ansM], .inl ⟨.inr ⟨b5, cap, _, by simp, one_self _ _, chunks_cells _ _⟩, rfl, rfl⟩⟩
    simp [n12, n21, n13, n31, n23, n32, n14, n41, n24, n42, n34, n43, n15, n51, n25, n52, n35, n53, n45, n54, Weak.refl]
theorem serve_own2 (me : Int) (s : PState) (q : PMsg) (hs : OkS s) (hv : rightV q.view = true) (h1 : q.to = me) (k2 : q.kind = 2) : MSpec Tryz.prog 22 [eI me, .agg (eSt s), .agg (eM q)] (fun _ => none) (SvO me s q) := by
  refine MSpec.of_awp Tryz.func22 (by kernel_rfl) rfl (by rw [Tryz.results22]) Tryz.ntmps22 ?_
  simp -implicitDefEqProofs [eM, eSt]
  refine allocK.intro (fun b1 hb1 => ?_)
  simp -implicitDefEqProofs
  refine allocK.intro (fun b2 hb2 => ?_)
  have n12 : ¬ b1 = b2 := by rintro rfl; simp at hb2
  have n21 : ¬ b2 = b1 := fun h => n12 h.symm
  simp -implicitDefEqProofs [n12, n21]
  refine allocK.intro (fun b3 hb3 => ?_)
  have n13 : ¬ b1 = b3 := by rintro rfl; simp [n12] at hb3
  have n31 : ¬ b3 = b1 := fun h => n13 h.symm
  have n23 : ¬ b2 = b3 := by rintro rfl; simp at hb3
  have n32 : ¬ b3 = b2 := fun h => n23 h.symm
  simp -implicitDefEqProofs [n12, n21, n13, n31, n23, n32, h1]
  refine allocK.intro (fun b4 hb4 => ?_)
  have n14 : ¬ b1 = b4 := by rintro rfl; simp [n12, n13] at hb4
  have n41 : ¬ b4 = b1 := fun h => n14 h.symm
  have n24 : ¬ b2 = b4 := by rintro rfl; simp [n23] at hb4
  have n42 : ¬ b4 = b2 := fun h => n24 h.symm
  have n34 : ¬ b3 = b4 := by rintro rfl; simp at hb4
  have n43 : ¬ b4 = b3 := fun h => n34 h.symm
  simp -implicitDefEqProofs [n12, n21, n13, n31, n23, n32, n14, n41, n24, n42, n34, n43, k2]
  have ew : wroteS s q = [] := wrote_asks (.inr k2)
  have et : tellS me s q = { ansM me q with kind := 6, book := bookS s q.view } := by unfold tellS; rw [if_neg (by omega), if_pos k2]
  refine CallK.thaw (book_new s q.view hs hv) (by simp [eSt, eV]) ?_
  rintro r (⟨h0, tag, htag, rfl⟩ | ⟨hne, rfl⟩)
  · left
    have hl0 : bookS s q.view = [] := by simpa [eEs] using h0
    simp -implicitDefEqProofs [n12, n21, n13, n31, n23, n32, n14, n41, n24, n42, n34, n43]
    refine regionK.intro 3 follows_mixed (by kernel_rfl) ?_
    simp -implicitDefEqProofs [n12, n21, n13, n31, n23, n32, n14, n41, n24, n42, n34, n43]
    unfold SvO
    rw [ew, et]
    exact ⟨fun _ => none, fun _ _ h => by simp at h, _, _, by simp [ansM], .inr ⟨rfl, rfl, .inl ⟨by simp [hl0], rfl⟩⟩⟩
  · right
    refine ⟨_, _, _, _, rfl, hne, .inl rfl, fun b5 cap spare hb5 hcap hsp => ?_⟩
    have n15 : ¬ b1 = b5 := by rintro rfl; simp [n12, n13, n14] at hb5
    have n51 : ¬ b5 = b1 := fun h => n15 h.symm
    have n25 : ¬ b2 = b5 := by rintro rfl; simp [n23, n24] at hb5
    have n52 : ¬ b5 = b2 := fun h => n25 h.symm
    have n35 : ¬ b3 = b5 := by rintro rfl; simp [n34] at hb5
    have n53 : ¬ b5 = b3 := fun h => n35 h.symm
    have n45 : ¬ b4 = b5 := by rintro rfl; simp at hb5
    have n54 : ¬ b5 = b4 := fun h => n45 h.symm
    have ed := eEs_dead2 (bookS s q.view)
    simp -implicitDefEqProofs [n12, n21, n13, n31, n23, n32, n14, n41, n24, n42, n34, n43, n15, n51, n25, n52, n35, n53, n45, n54]
    refine regionK.intro 3 follows_mixed (by kernel_rfl) ?_
    simp -implicitDefEqProofs [n12, n21, n13, n31, n23, n32, n14, n41, n24, n42, n34, n43, n15, n51, n25, n52, n35, n53, n45, n54]
    unfold SvO
    rw [ew, et]
    have ef : (List.map (List.map dead1) (eEs (bookS s q.view))).flatten = (eEs (bookS s q.view)).flatten := by rw [eEs_dead2]
    rw [ef]
    refine ⟨one b5 ((eEs (bookS s q.view)).flatten ++ spare.map AV.v), SubH_one.2 ?_, .sl .no [], .sm b5 0 (bookS s q.view).length cap, by simp [ansM], .inr ⟨rfl, rfl, .inr ⟨b5, cap, _, by simp, one_self _ _, chunks_entries _ _⟩⟩⟩
    simp [n12, n21, n13, n31, n23, n32, n14, n41, n24, n42, n34, n43, n15, n51, n25, n52, n35, n53, n45, n54, Weak.refl]
end Go.Proofs.YtjbbfiagijjdoaaGreat

/- The law ReplicaServes, walked. No condition. -/
set_option linter.unusedSimpArgs false
set_option linter.unusedVariables false
set_option maxRecDepth 10000
namespace Go.Proofs.YtjbbfiagijjdoaaGreat
open Go Go.Rw Go.Proofs
-- a goal is never to be run by the elaborator
attribute [local irreducible] awp aops aop aopsE aeff

def SvB (l : List PRec) (s : PState) (A : List AV) (b2 b4 c nz : Nat) (t : Nat → AV) (h : Nat → Option (List AV)) : Prop := t 1 = .sl .no (eRs l) ∧ t 7 = .ptr b2 0 ∧ t 10 = .ptr b4 0 ∧ h b2 = some (eSt s) ∧ h b4 = some A ∧ ∃ z, h c = some z ∧ nz ≤ z.length
def SvL (l : List PRec) (s : PState) (A : List AV) (b2 b4 c nz tl tk n : Nat) (t : Nat → AV) (h : Nat → Option (List AV)) : Prop := ∃ k : Nat, SvB l s A b2 b4 c nz t h ∧ t tl = eI n ∧ t tk = eI k ∧ k ≤ n
theorem sameRs_self2 (l : List PRec) : sameRs l l = true := by
  induction l with
  | nil => rfl
  | cons x l ih => simp only [sameRs, ih, Bool.and_true]; rw [sameR_iff, sameE_iff]; simp
theorem wrote_fit {s : PState} {q : PMsg} (hf : fitM q) : ∀ r ∈ wroteS s q, fitR r := by
  intro r hr
  have z : fitR ⟨0, zV, zC, zE, 0⟩ := by unfold fitR zE; simp
  unfold wroteS at hr
  split at hr
  · obtain ⟨c, _, rfl⟩ := List.mem_map.1 hr; exact z
  · split at hr
    · obtain ⟨x, hx, rfl⟩ := List.mem_map.1 hr
      exact hf x (List.mem_filter.1 hx).1
    · split at hr
      · split at hr
        · simp at hr; rw [hr]; exact z
        · simp at hr
      · simp at hr
theorem tell_fit {n : Nat} {me : Int} {s : PState} {q : PMsg} (hs : OkT n s) (hf : fitS s) : fitM (tellS me s q) := by
  intro x hx
  unfold tellS at hx
  split at hx
  · simp [ansM] at hx
  · split at hx
    · simp only at hx
      rw [bookS_look hs.sb] at hx
      cases hl : lookK keyVB s.books (nameV q.view) with
      | none => rw [hl] at hx; simp at hx
      | some y => rw [hl] at hx; exact hf y (look_some hl).1 x hx
    · simp [ansM] at hx
theorem servable_kind {me : Int} {q : PMsg} (h : servable me q = true) : q.to = me ∧ 0 ≤ q.kind ∧ q.kind ≤ 4 := by
  unfold servable at h
  simpa using h
theorem answer_empty {me : Int} {s : PState} {q : PMsg} (h : ¬ (servable me q = true ∧ (q.kind = 0 ∨ q.kind = 2))) : (answerS me s q).cells = [] ∧ (answerS me s q).book = [] := by
  unfold answerS
  split
  · rename_i hs
    unfold tellS
    split
    · rename_i h0; exact absurd ⟨hs, .inl h0⟩ h
    · split
      · rename_i h2; exact absurd ⟨hs, .inr h2⟩ h
      · exact ⟨rfl, rfl⟩
  · exact ⟨rfl, rfl⟩
theorem answer_fit {n : Nat} {me : Int} {s : PState} {q : PMsg} (hs : OkT n s) (hf : fitS s) : fitM (answerS me s q) := by
  unfold answerS
  split
  · exact tell_fit hs hf
  · intro x hx; simp [zM] at hx
theorem recs_fit {me : Int} {s : PState} {q : PMsg} (hf : fitM q) : ∀ r ∈ recsS me s q, fitR r := by
  unfold recsS
  split
  · exact wrote_fit hf
  · intro r hr; simp at hr
theorem tell_head2 (me : Int) (s : PState) (q : PMsg) : (tellS me s q).inc = q.inc ∧ (tellS me s q).seq = q.seq := by
  unfold tellS ansM
  split
  · exact ⟨rfl, rfl⟩
  · split <;> exact ⟨rfl, rfl⟩
theorem serves13_law (me : Int) (l : List PRec) (q : PMsg) (hf : ∀ r ∈ l, fitR r) (hfq : fitM q) (hl : l.length ≤ 1048576) (hq1 : q.cells.length ≤ 1048576) (hq2 : q.book.length ≤ 1048576) : ASpec Tryz.prog 3 [eI me, .sl .no (eRs l), .agg (eM q)] (· = .v (.bool true)) := by
  refine ASpec.of_awp Tryz.func3 (by kernel_rfl) rfl (by rw [Tryz.results3]) Tryz.ntmps3 ?_
  simp -implicitDefEqProofs [eM]
  refine allocK.intro (fun b1 hb1 => ?_)
  simp -implicitDefEqProofs
  refine CallK.eq alive13_spec ?_
  simp -implicitDefEqProofs
  intro _
  by_cases h60 : 60 < l.length
  · have h60' : (60 : Int) < (l.length : Int) := by omega
    simp -implicitDefEqProofs [h60, h60']
  have h60' : ¬ (60 : Int) < (l.length : Int) := by omega
  simp -implicitDefEqProofs [h60, h60']
  refine CallK.with (right13_spec me l q hf (by omega)) (by simp [eM]) ?_
  cases hr : (l.all rightR && (decide (0 ≤ me) && decide (me < 6) && rightM q))
  · simp -implicitDefEqProofs
  obtain ⟨hr1, hr2, hr3⟩ := right13_of hr
  simp -implicitDefEqProofs
  have hfold := fold_spec v7 l rightV_v7 hr1 (by omega)
  have hok := okT_fold rightV_v7 hr1 l.length (Nat.le_refl _)
  have hfit := fit_fold rightV_v7 hr1 hf l.length (Nat.le_refl _)
  rw [List.take_length] at hok hfit
  have hof := of12_spec v7 l rightV_v7 hr1 (by omega)
  rw [state_eq rightV_v7 hr1] at hof
  generalize foldS v7 l = s at *
  have R := rightM_of hr3
  have hc6 := R.clen
  have hb6 := R.blen
  have hsv := serve_spec me s q (hok.ok (by omega)) R.view (by omega) (by omega)
  have hsd := serve13_spec me s q (hok.ok (by omega)) R.view (by omega) (by omega)
  have hwf := recs_fit (me := me) (s := s) hfq
  have haf := answer_fit (me := me) (q := q) hok hfit
  refine CallK.with hfold (by simp [eV, v7]) ?_
  simp -implicitDefEqProofs [eSt]
  refine allocK.intro (fun b2 hb2 => ?_)
  have n12 : ¬ b1 = b2 := by rintro rfl; simp at hb2
  have n21 : ¬ b2 = b1 := fun h => n12 h.symm
  simp -implicitDefEqProofs [n12, n21]
  refine CallK.with (copy11_spec q (by omega) (by omega)) (by simp [eM]) ?_
  simp -implicitDefEqProofs [n12, n21, eM]
  refine allocK.intro (fun b3 hb3 => ?_)
  have n13 : ¬ b1 = b3 := by rintro rfl; simp [n12] at hb3
  have n31 : ¬ b3 = b1 := fun h => n13 h.symm
  have n23 : ¬ b2 = b3 := by rintro rfl; simp at hb3
  have n32 : ¬ b3 = b2 := fun h => n23 h.symm
  simp -implicitDefEqProofs [n12, n21, n13, n31, n23, n32]
  by_cases hown : ¬ (servable me q = true ∧ (q.kind = 0 ∨ q.kind = 2))
  · obtain ⟨ae1, ae2⟩ := answer_empty (s := s) hown
    refine CallK.with hsv (by simp [eSt, eM]) ?_
    rw [serveA]
    rw [serveA] at hsd
    generalize recsS me s q = w at *
    generalize hA : answerS me s q = a at *
    generalize servable me q = ok at *
    simp -implicitDefEqProofs [n12, n21, n13, n31, n23, n32, eM]
    refine allocK.intro (fun b4 hb4 => ?_)
    have n14 : ¬ b1 = b4 := by rintro rfl; simp [n12, n13] at hb4
    have n41 : ¬ b4 = b1 := fun h => n14 h.symm
    have n24 : ¬ b2 = b4 := by rintro rfl; simp [n23] at hb4
    have n42 : ¬ b4 = b2 := fun h => n24 h.symm
    have n34 : ¬ b3 = b4 := by rintro rfl; simp at hb4
    have n43 : ¬ b4 = b3 := fun h => n34 h.symm
    simp -implicitDefEqProofs [n12, n21, n13, n31, n23, n32, n14, n41, n24, n42, n34, n43]
    refine regionK.modes [] [.q, .q, .q, .q, .q, .q, .q, .q, .q, .q, .l, .r, .s, .r] follows_mixed (by kernel_rfl) ?_
    simp -implicitDefEqProofs [n12, n21, n13, n31, n23, n32, n14, n41, n24, n42, n34, n43]
    refine CallQ.with hof (by simp [eV, v7]) ?_
    simp -implicitDefEqProofs [n12, n21, n13, n31, n23, n32, n14, n41, n24, n42, n34, n43]
    refine CallQ.with hsd (by simp [eSt, eM]) ?_
    simp -implicitDefEqProofs [n12, n21, n13, n31, n23, n32, n14, n41, n24, n42, n34, n43, eM]
    refine allocK.intro (fun b5 hb5 => ?_)
    have n15 : ¬ b1 = b5 := by rintro rfl; simp [n12, n13, n14] at hb5
    have n51 : ¬ b5 = b1 := fun h => n15 h.symm
    have n25 : ¬ b2 = b5 := by rintro rfl; simp [n23, n24] at hb5
    have n52 : ¬ b5 = b2 := fun h => n25 h.symm
    have n35 : ¬ b3 = b5 := by rintro rfl; simp [n34] at hb5
    have n53 : ¬ b5 = b3 := fun h => n35 h.symm
    have n45 : ¬ b4 = b5 := by rintro rfl; simp at hb5
    have n54 : ¬ b5 = b4 := fun h => n45 h.symm
    simp -implicitDefEqProofs [n12, n21, n13, n31, n23, n32, n14, n41, n24, n42, n34, n43, n15, n51, n25, n52, n35, n53, n45, n54]
    refine CallK.with (same9_spec w w hwf hwf) (by simp) ?_
    rw [sameRs_self2]
    simp -implicitDefEqProofs [n12, n21, n13, n31, n23, n32, n14, n41, n24, n42, n34, n43, n15, n51, n25, n52, n35, n53, n45, n54]
    refine CallK.with (same11_spec a a haf haf) (by simp [eM]) ?_
    rw [samesM]
    simp -implicitDefEqProofs [n12, n21, n13, n31, n23, n32, n14, n41, n24, n42, n34, n43, n15, n51, n25, n52, n35, n53, n45, n54]
    refine CallK.with (same11_spec q q hfq hfq) (by simp [eM]) ?_
    rw [samesM]
    simp -implicitDefEqProofs [n12, n21, n13, n31, n23, n32, n14, n41, n24, n42, n34, n43, n15, n51, n25, n52, n35, n53, n45, n54, ae1, ae2]
    refine loopK.post (SvL l s [eI a.kind, eI a.frm, eI a.to, eI a.inc, eI a.seq, eI a.view.add, eI a.view.del, .sl .no [], .sl .no []] b2 b4 b4 0 75 76 0) (fun _ => 0) (SvB l s [eI a.kind, eI a.frm, eI a.to, eI a.inc, eI a.seq, eI a.view.add, eI a.view.del, .sl .no [], .sl .no []] b2 b4 b4 0) ?_ ?_ ?_
    · exact ⟨0, ⟨by simp, by simp, by simp, by simp [n12, n21, n13, n31, n23, n32, n14, n41, n24, n42, n34, n43, n15, n51, n25, n52, n35, n53, n45, n54, eSt], by simp [n12, n21, n13, n31, n23, n32, n14, n41, n24, n42, n34, n43, n15, n51, n25, n52, n35, n53, n45, n54, eM, ae1, ae2], _, by simp [n12, n21, n13, n31, n23, n32, n14, n41, n24, n42, n34, n43, n15, n51, n25, n52, n35, n53, n45, n54]; rfl, by omega⟩, by simp, by simp, by omega⟩
    · rintro t hh ⟨k, ⟨g1, g7, g10, d2, d4, z, dc, hz⟩, gl, gk, hk⟩
      have hlt' : ¬ (k : Int) < 0 := by omega
      simp -implicitDefEqProofs [gl, gk, hlt']
      exact ⟨by simp [g1], by simp [g7], by simp [g10], d2, d4, z, dc, hz⟩
    rintro t hh ⟨g1, g7, g10, d2, d4, z, dc, hz⟩
    simp -implicitDefEqProofs [g10, d4]
    refine loopK.post (SvL l s [eI a.kind, eI a.frm, eI a.to, eI a.inc, eI a.seq, eI a.view.add, eI a.view.del, .sl .no [], .sl .no []] b2 b4 b4 0 87 88 0) (fun _ => 0) (SvB l s [eI a.kind, eI a.frm, eI a.to, eI a.inc, eI a.seq, eI a.view.add, eI a.view.del, .sl .no [], .sl .no []] b2 b4 b4 0) ?_ ?_ ?_
    · exact ⟨0, ⟨by simp [g1], by simp [g7], by simp [g10], d2, d4, z, dc, hz⟩, by simp, by simp, by omega⟩
    · rintro t hh ⟨k, ⟨g1, g7, g10, d2, d4, z, dc, hz⟩, gl, gk, hk⟩
      have hlt' : ¬ (k : Int) < 0 := by omega
      simp -implicitDefEqProofs [gl, gk, hlt']
      exact ⟨by simp [g1], by simp [g7], by simp [g10], d2, d4, z, dc, hz⟩
    rintro t hh ⟨g1, g7, g10, d2, d4, z, dc, hz⟩
    rw [eSt] at d2
    simp -implicitDefEqProofs [g1, g7, d2]
    refine regionK.intro 5 follows_mixed (by kernel_rfl) ?_
    simp -implicitDefEqProofs [g1, g7, d2]
    refine CallQ.with hof (by simp [eV, v7]) ?_
    simp -implicitDefEqProofs [g1, g7, d2]
    refine CallQ.with (same12_spec s s hfit hfit) (by simp [eSt]) ?_
    rw [sameSt_self]
    simp -implicitDefEqProofs
  have hown2 : servable me q = true ∧ (q.kind = 0 ∨ q.kind = 2) := Classical.byContradiction hown
  obtain ⟨hs, hk02⟩ := hown2
  have hto := (servable_kind hs).1
  have e1 : recsS me s q = wroteS s q := by rw [recsS, if_pos hs]
  have e2 : answerS me s q = tellS me s q := by rw [answerS, if_pos hs]
  rw [e1] at hwf
  rw [e2] at haf
  rw [serveA, e1, e2, hs] at hsd
  have hlast : True := trivial
  have hso : MSpec Tryz.prog 22 [eI me, .agg (eSt s), .agg (eM q)] (fun _ => none) (SvO me s q) := by
    rcases hk02 with k0 | k2
    · exact serve_own0 me s q (hok.ok (by omega)) R.view hto k0
    · exact serve_own2 me s q (hok.ok (by omega)) R.view hto k2
  refine CallK.fresh hso (by simp [eSt, eM]) ?_
  rintro r h' H ⟨x1, x2, rfl, hx⟩ hold hnew hfr
  have th := tell_head me s q
  have th' := tell_head2 me s q
  generalize wroteS s q = w at *
  generalize tellS me s q = a at *
  obtain ⟨th1, th2, th3, _⟩ := th
  obtain ⟨th4, th5⟩ := th'
  have f1 : H b1 = some (eM q) := hold b1 _ (by simp [n12, n21, n13, n31, n23, n32, eM])
  have f2 : H b2 = some (eSt s) := hold b2 _ (by simp [n12, n21, n13, n31, n23, n32, eSt])
  have f3 : H b3 = some (eM q) := hold b3 _ (by simp [eM])
  have ne : ∀ c z, h' c = some z → ¬ b1 = c ∧ ¬ b2 = c ∧ ¬ b3 = c := fun c z hc => by
    have h0 := hfr c z hc
    refine ⟨?_, ?_, ?_⟩ <;> (rintro rfl; simp [n12, n21, n13, n31, n23, n32] at h0)
  have f1' := f1
  have f2' := f2
  have f3' := f3
  rw [eM] at f1' f3'
  rw [eSt] at f2'
  have hax : eM a = [eI a.kind, eI me, eI q.frm, eI q.inc, eI q.seq, eI q.view.add, eI q.view.del, .sl .no (eCs a.cells), .sl .no (eEs a.book)] ∨ True := .inr trivial
  rcases hx with ⟨hx1, rfl, hb0⟩ | ⟨rfl, hc0, hx2⟩
  · rcases hx1 with ⟨hr0, rfl⟩ | ⟨c, cc, cells, rfl, hcell, hch⟩
    · have hc0' : a.cells = [] := by simpa [eCs] using hr0
      have hc0 := hc0'
      simp -implicitDefEqProofs [n12, n21, n13, n31, n23, n32]
      refine allocK.intro (fun b4 hb4 => ?_)
      have n14 : ¬ b1 = b4 := by rintro rfl; simp [f1] at hb4
      have n41 : ¬ b4 = b1 := fun h => n14 h.symm
      have n24 : ¬ b2 = b4 := by rintro rfl; simp [f2] at hb4
      have n42 : ¬ b4 = b2 := fun h => n24 h.symm
      have n34 : ¬ b3 = b4 := by rintro rfl; simp [f3] at hb4
      have n43 : ¬ b4 = b3 := fun h => n34 h.symm
      simp -implicitDefEqProofs [n12, n21, n13, n31, n23, n32, n14, n41, n24, n42, n34, n43, f1', f2', f3']
      refine regionK.modes [] [.q, .q, .q, .q, .q, .q, .q, .q, .q, .q, .l, .r, .s, .r] follows_mixed (by kernel_rfl) ?_
      simp -implicitDefEqProofs [n12, n21, n13, n31, n23, n32, n14, n41, n24, n42, n34, n43, f1', f2', f3']
      refine CallQ.with hof (by simp [eV, v7]) ?_
      simp -implicitDefEqProofs [n12, n21, n13, n31, n23, n32, n14, n41, n24, n42, n34, n43, f1', f2', f3']
      refine CallQ.with hsd (by simp [eSt, eM]) ?_
      simp -implicitDefEqProofs [n12, n21, n13, n31, n23, n32, n14, n41, n24, n42, n34, n43, f1', f2', f3', eM]
      refine allocK.intro (fun b5 hb5 => ?_)
      have n15 : ¬ b1 = b5 := by rintro rfl; simp [n14, f1] at hb5
      have n51 : ¬ b5 = b1 := fun h => n15 h.symm
      have n25 : ¬ b2 = b5 := by rintro rfl; simp [n24, f2] at hb5
      have n52 : ¬ b5 = b2 := fun h => n25 h.symm
      have n35 : ¬ b3 = b5 := by rintro rfl; simp [n34, f3] at hb5
      have n53 : ¬ b5 = b3 := fun h => n35 h.symm
      have n45 : ¬ b4 = b5 := by rintro rfl; simp at hb5
      have n54 : ¬ b5 = b4 := fun h => n45 h.symm
      simp -implicitDefEqProofs [n12, n21, n13, n31, n23, n32, n14, n41, n24, n42, n34, n43, n15, n51, n25, n52, n35, n53, n45, n54, f1', f2', f3']
      refine CallK.with (same9_spec w w hwf hwf) (by simp) ?_
      rw [sameRs_self2]
      simp -implicitDefEqProofs [n12, n21, n13, n31, n23, n32, n14, n41, n24, n42, n34, n43, n15, n51, n25, n52, n35, n53, n45, n54, f1', f2', f3']
      refine CallK.with (same11_spec a a haf haf) (by simp [eM, th1, th2, th3, th4, th5, hc0, hb0]) ?_
      rw [samesM]
      simp -implicitDefEqProofs [n12, n21, n13, n31, n23, n32, n14, n41, n24, n42, n34, n43, n15, n51, n25, n52, n35, n53, n45, n54, f1', f2', f3']
      refine CallK.with (same11_spec q q hfq hfq) (by simp [eM]) ?_
      rw [samesM]
      simp -implicitDefEqProofs [n12, n21, n13, n31, n23, n32, n14, n41, n24, n42, n34, n43, n15, n51, n25, n52, n35, n53, n45, n54, f1', f2', f3']
      refine loopK.post (SvL l s [eI a.kind, eI me, eI q.frm, eI q.inc, eI q.seq, eI q.view.add, eI q.view.del, .sl .no [], .sl .no []] b2 b4 b4 0 75 76 0) (fun _ => 0) (SvB l s [eI a.kind, eI me, eI q.frm, eI q.inc, eI q.seq, eI q.view.add, eI q.view.del, .sl .no [], .sl .no []] b2 b4 b4 0) ?_ ?_ ?_
      · exact ⟨0, ⟨by simp, by simp, by simp, by simp [n12, n21, n13, n31, n23, n32, n14, n41, n24, n42, n34, n43, n15, n51, n25, n52, n35, n53, n45, n54, f1', f2', f3', eSt], by simp [n12, n21, n13, n31, n23, n32, n14, n41, n24, n42, n34, n43, n15, n51, n25, n52, n35, n53, n45, n54, f1', f2', f3'], _, by simp [n12, n21, n13, n31, n23, n32, n14, n41, n24, n42, n34, n43, n15, n51, n25, n52, n35, n53, n45, n54, f1', f2', f3']; rfl, by omega⟩, by simp, by simp, by omega⟩
      · rintro t hh ⟨k, ⟨g1, g7, g10, d2, d4, z, dc, hz⟩, gl, gk, hk⟩
        have hlt' : ¬ (k : Int) < 0 := by omega
        simp -implicitDefEqProofs [gl, gk, hlt']
        exact ⟨by simp [g1], by simp [g7], by simp [g10], d2, d4, z, dc, hz⟩
      rintro t hh ⟨g1, g7, g10, d2, d4, z, dc, hz⟩
      simp -implicitDefEqProofs [g10, d4]
      refine loopK.post (SvL l s [eI a.kind, eI me, eI q.frm, eI q.inc, eI q.seq, eI q.view.add, eI q.view.del, .sl .no [], .sl .no []] b2 b4 b4 0 87 88 0) (fun _ => 0) (SvB l s [eI a.kind, eI me, eI q.frm, eI q.inc, eI q.seq, eI q.view.add, eI q.view.del, .sl .no [], .sl .no []] b2 b4 b4 0) ?_ ?_ ?_
      · exact ⟨0, ⟨by simp [g1], by simp [g7], by simp [g10], d2, d4, z, dc, hz⟩, by simp, by simp, by omega⟩
      · rintro t hh ⟨k, ⟨g1, g7, g10, d2, d4, z, dc, hz⟩, gl, gk, hk⟩
        have hlt' : ¬ (k : Int) < 0 := by omega
        simp -implicitDefEqProofs [gl, gk, hlt']
        exact ⟨by simp [g1], by simp [g7], by simp [g10], d2, d4, z, dc, hz⟩
      rintro t hh ⟨g1, g7, g10, d2, d4, z, dc, hz⟩
      rw [eSt] at d2
      simp -implicitDefEqProofs [g1, g7, d2]
      refine regionK.intro 5 follows_mixed (by kernel_rfl) ?_
      simp -implicitDefEqProofs [g1, g7, d2]
      refine CallQ.with hof (by simp [eV, v7]) ?_
      simp -implicitDefEqProofs [g1, g7, d2]
      refine CallQ.with (same12_spec s s hfit hfit) (by simp [eSt]) ?_
      rw [sameSt_self]
      simp -implicitDefEqProofs
    · obtain ⟨m1, m2, m3⟩ := ne c _ hcell
      have fc := hnew c _ hcell
      have m1' : ¬ c = b1 := fun h => m1 h.symm
      have m2' : ¬ c = b2 := fun h => m2 h.symm
      have m3' : ¬ c = b3 := fun h => m3 h.symm
      simp -implicitDefEqProofs [n12, n21, n13, n31, n23, n32]
      refine allocK.intro (fun b4 hb4 => ?_)
      have n14 : ¬ b1 = b4 := by rintro rfl; simp [f1] at hb4
      have n41 : ¬ b4 = b1 := fun h => n14 h.symm
      have n24 : ¬ b2 = b4 := by rintro rfl; simp [f2] at hb4
      have n42 : ¬ b4 = b2 := fun h => n24 h.symm
      have n34 : ¬ b3 = b4 := by rintro rfl; simp [f3] at hb4
      have n43 : ¬ b4 = b3 := fun h => n34 h.symm
      have m4 : ¬ c = b4 := by rintro rfl; simp [fc] at hb4
      have m4' : ¬ b4 = c := fun h => m4 h.symm
      simp -implicitDefEqProofs [n12, n21, n13, n31, n23, n32, n14, n41, n24, n42, n34, n43, m1, m1', m2, m2', m3, m3', m4, m4', f1', f2', f3']
      refine regionK.modes [] [.q, .q, .q, .q, .q, .q, .q, .q, .q, .q, .l, .r, .s, .r] follows_mixed (by kernel_rfl) ?_
      simp -implicitDefEqProofs [n12, n21, n13, n31, n23, n32, n14, n41, n24, n42, n34, n43, m1, m1', m2, m2', m3, m3', m4, m4', f1', f2', f3']
      refine CallQ.with hof (by simp [eV, v7]) ?_
      simp -implicitDefEqProofs [n12, n21, n13, n31, n23, n32, n14, n41, n24, n42, n34, n43, m1, m1', m2, m2', m3, m3', m4, m4', f1', f2', f3']
      refine CallQ.with hsd (by simp [eSt, eM]) ?_
      simp -implicitDefEqProofs [n12, n21, n13, n31, n23, n32, n14, n41, n24, n42, n34, n43, m1, m1', m2, m2', m3, m3', m4, m4', f1', f2', f3', eM]
      refine allocK.intro (fun b5 hb5 => ?_)
      have n15 : ¬ b1 = b5 := by rintro rfl; simp [n14, f1] at hb5
      have n51 : ¬ b5 = b1 := fun h => n15 h.symm
      have n25 : ¬ b2 = b5 := by rintro rfl; simp [n24, f2] at hb5
      have n52 : ¬ b5 = b2 := fun h => n25 h.symm
      have n35 : ¬ b3 = b5 := by rintro rfl; simp [n34, f3] at hb5
      have n53 : ¬ b5 = b3 := fun h => n35 h.symm
      have n45 : ¬ b4 = b5 := by rintro rfl; simp at hb5
      have n54 : ¬ b5 = b4 := fun h => n45 h.symm
      have m5 : ¬ c = b5 := by rintro rfl; simp [m4, fc] at hb5
      have m5' : ¬ b5 = c := fun h => m5 h.symm
      simp -implicitDefEqProofs [n12, n21, n13, n31, n23, n32, n14, n41, n24, n42, n34, n43, m1, m1', m2, m2', m3, m3', m4, m4', n15, n51, n25, n52, n35, n53, n45, n54, m5, m5', fc, f1', f2', f3']
      refine CallK.with (same9_spec w w hwf hwf) (by simp) ?_
      rw [sameRs_self2]
      simp -implicitDefEqProofs [n12, n21, n13, n31, n23, n32, n14, n41, n24, n42, n34, n43, m1, m1', m2, m2', m3, m3', m4, m4', n15, n51, n25, n52, n35, n53, n45, n54, m5, m5', fc, f1', f2', f3']
      refine CallK.lend c cells (eCs a.cells) (by simp [n12, n21, n13, n31, n23, n32, n14, n41, n24, n42, n34, n43, m1, m1', m2, m2', m3, m3', m4, m4', n15, n51, n25, n52, n35, n53, n45, n54, m5, m5', fc, f1', f2', f3']) hch (same11_spec a a haf haf) (by simp [frz2, frz1, frz0, eM, th1, th2, th3, th4, th5, hb0, List.take_of_length_le]) (by rintro _ rfl; rfl) ?_
      rintro _ rfl
      rw [samesM]
      simp -implicitDefEqProofs [n12, n21, n13, n31, n23, n32, n14, n41, n24, n42, n34, n43, m1, m1', m2, m2', m3, m3', m4, m4', n15, n51, n25, n52, n35, n53, n45, n54, m5, m5', fc, f1', f2', f3']
      refine CallK.with (same11_spec q q hfq hfq) (by simp [eM]) ?_
      rw [samesM]
      simp -implicitDefEqProofs [n12, n21, n13, n31, n23, n32, n14, n41, n24, n42, n34, n43, m1, m1', m2, m2', m3, m3', m4, m4', n15, n51, n25, n52, n35, n53, n45, n54, m5, m5', fc, f1', f2', f3']
      have hlen : a.cells.length * 3 ≤ cells.length := by have := hch.2.2.1; simpa using this
      refine loopK.post (SvL l s [eI a.kind, eI me, eI q.frm, eI q.inc, eI q.seq, eI q.view.add, eI q.view.del, .sm c 0 a.cells.length cc, .sl .no []] b2 b4 c (a.cells.length * 3) 75 76 0) (fun _ => 0) (SvB l s [eI a.kind, eI me, eI q.frm, eI q.inc, eI q.seq, eI q.view.add, eI q.view.del, .sm c 0 a.cells.length cc, .sl .no []] b2 b4 c (a.cells.length * 3)) ?_ ?_ ?_
      · exact ⟨0, ⟨by simp, by simp, by simp, by simp [n12, n21, n13, n31, n23, n32, n14, n41, n24, n42, n34, n43, m1, m1', m2, m2', m3, m3', m4, m4', n15, n51, n25, n52, n35, n53, n45, n54, m5, m5', fc, f1', f2', f3', eSt], by simp [n12, n21, n13, n31, n23, n32, n14, n41, n24, n42, n34, n43, m1, m1', m2, m2', m3, m3', m4, m4', n15, n51, n25, n52, n35, n53, n45, n54, m5, m5', fc, f1', f2', f3'], cells, by simp [n12, n21, n13, n31, n23, n32, n14, n41, n24, n42, n34, n43, m1, m1', m2, m2', m3, m3', m4, m4', n15, n51, n25, n52, n35, n53, n45, n54, m5, m5', fc, f1', f2', f3'], hlen⟩, by simp, by simp, by omega⟩
      · rintro t hh ⟨k, ⟨g1, g7, g10, d2, d4, z, dc, hz⟩, gl, gk, hk⟩
        have hlt' : ¬ (k : Int) < 0 := by omega
        simp -implicitDefEqProofs [gl, gk, hlt']
        exact ⟨by simp [g1], by simp [g7], by simp [g10], d2, d4, z, dc, hz⟩
      rintro t hh ⟨g1, g7, g10, d2, d4, z, dc, hz⟩
      simp -implicitDefEqProofs [g10, d4]
      intro _
      refine loopK.post (SvL l s [eI a.kind, eI me, eI q.frm, eI q.inc, eI q.seq, eI q.view.add, eI q.view.del, .sm c 0 a.cells.length cc, .sl .no []] b2 b4 c (a.cells.length * 3) 87 88 a.cells.length) (fun t => a.cells.length - natOf (t 88)) (SvB l s [eI a.kind, eI me, eI q.frm, eI q.inc, eI q.seq, eI q.view.add, eI q.view.del, .sm c 0 a.cells.length cc, .sl .no []] b2 b4 c (a.cells.length * 3)) ?_ ?_ ?_
      · exact ⟨0, ⟨by simp [g1], by simp [g7], by simp [g10], d2, d4, z, dc, hz⟩, by simp, by simp, by omega⟩
      · rintro t hh ⟨k, ⟨g1, g7, g10, d2, d4, z, dc, hz⟩, gl, gk, hk⟩
        by_cases hlt : k < a.cells.length
        · have hlt' : (k : Int) < ((a.cells.length : Nat) : Int) := by omega
          have hw : IntKind.i64.wrap ((k : Int) + 1) = ((k + 1 : Nat) : Int) := by rw [w64 (by omega) (by omega)]; omega
          have hz1 : k * 3 + 1 ≤ z.length := by omega
          have d4' := d4
          simp -implicitDefEqProofs [gl, gk, hlt, hlt', g10, d4', dc, hz1, hw]
          exact ⟨⟨k + 1, ⟨by simp [g1], by simp [g7], by simp [g10], by simp [m2, m2', d2], by simp [m4, m4', d4], _, by simp; rfl, by simp; omega⟩, by simp [gl], by simp, by omega⟩, by omega⟩
        · have hlt' : ¬ (k : Int) < ((a.cells.length : Nat) : Int) := by omega
          simp -implicitDefEqProofs [gl, gk, hlt']
          exact ⟨by simp [g1], by simp [g7], by simp [g10], d2, d4, z, dc, hz⟩
      rintro t hh ⟨g1, g7, g10, d2, d4, z, dc, hz⟩
      rw [eSt] at d2
      simp -implicitDefEqProofs [g1, g7, d2]
      refine regionK.intro 5 follows_mixed (by kernel_rfl) ?_
      simp -implicitDefEqProofs [g1, g7, d2]
      refine CallQ.with hof (by simp [eV, v7]) ?_
      simp -implicitDefEqProofs [g1, g7, d2]
      refine CallQ.with (same12_spec s s hfit hfit) (by simp [eSt]) ?_
      rw [sameSt_self]
      simp -implicitDefEqProofs
  · rcases hx2 with ⟨hr0, rfl⟩ | ⟨c, cc, cells, rfl, hcell, hch⟩
    · have hb0 : a.book = [] := by simpa [eEs] using hr0
      simp -implicitDefEqProofs [n12, n21, n13, n31, n23, n32]
      refine allocK.intro (fun b4 hb4 => ?_)
      have n14 : ¬ b1 = b4 := by rintro rfl; simp [f1] at hb4
      have n41 : ¬ b4 = b1 := fun h => n14 h.symm
      have n24 : ¬ b2 = b4 := by rintro rfl; simp [f2] at hb4
      have n42 : ¬ b4 = b2 := fun h => n24 h.symm
      have n34 : ¬ b3 = b4 := by rintro rfl; simp [f3] at hb4
      have n43 : ¬ b4 = b3 := fun h => n34 h.symm
      simp -implicitDefEqProofs [n12, n21, n13, n31, n23, n32, n14, n41, n24, n42, n34, n43, f1', f2', f3']
      refine regionK.modes [] [.q, .q, .q, .q, .q, .q, .q, .q, .q, .q, .l, .r, .s, .r] follows_mixed (by kernel_rfl) ?_
      simp -implicitDefEqProofs [n12, n21, n13, n31, n23, n32, n14, n41, n24, n42, n34, n43, f1', f2', f3']
      refine CallQ.with hof (by simp [eV, v7]) ?_
      simp -implicitDefEqProofs [n12, n21, n13, n31, n23, n32, n14, n41, n24, n42, n34, n43, f1', f2', f3']
      refine CallQ.with hsd (by simp [eSt, eM]) ?_
      simp -implicitDefEqProofs [n12, n21, n13, n31, n23, n32, n14, n41, n24, n42, n34, n43, f1', f2', f3', eM]
      refine allocK.intro (fun b5 hb5 => ?_)
      have n15 : ¬ b1 = b5 := by rintro rfl; simp [n14, f1] at hb5
      have n51 : ¬ b5 = b1 := fun h => n15 h.symm
      have n25 : ¬ b2 = b5 := by rintro rfl; simp [n24, f2] at hb5
      have n52 : ¬ b5 = b2 := fun h => n25 h.symm
      have n35 : ¬ b3 = b5 := by rintro rfl; simp [n34, f3] at hb5
      have n53 : ¬ b5 = b3 := fun h => n35 h.symm
      have n45 : ¬ b4 = b5 := by rintro rfl; simp at hb5
      have n54 : ¬ b5 = b4 := fun h => n45 h.symm
      simp -implicitDefEqProofs [n12, n21, n13, n31, n23, n32, n14, n41, n24, n42, n34, n43, n15, n51, n25, n52, n35, n53, n45, n54, f1', f2', f3']
      refine CallK.with (same9_spec w w hwf hwf) (by simp) ?_
      rw [sameRs_self2]
      simp -implicitDefEqProofs [n12, n21, n13, n31, n23, n32, n14, n41, n24, n42, n34, n43, n15, n51, n25, n52, n35, n53, n45, n54, f1', f2', f3']
      refine CallK.with (same11_spec a a haf haf) (by simp [eM, th1, th2, th3, th4, th5, hc0, hb0]) ?_
      rw [samesM]
      simp -implicitDefEqProofs [n12, n21, n13, n31, n23, n32, n14, n41, n24, n42, n34, n43, n15, n51, n25, n52, n35, n53, n45, n54, f1', f2', f3']
      refine CallK.with (same11_spec q q hfq hfq) (by simp [eM]) ?_
      rw [samesM]
      simp -implicitDefEqProofs [n12, n21, n13, n31, n23, n32, n14, n41, n24, n42, n34, n43, n15, n51, n25, n52, n35, n53, n45, n54, f1', f2', f3']
      refine loopK.post (SvL l s [eI a.kind, eI me, eI q.frm, eI q.inc, eI q.seq, eI q.view.add, eI q.view.del, .sl .no [], .sl .no []] b2 b4 b4 0 75 76 0) (fun _ => 0) (SvB l s [eI a.kind, eI me, eI q.frm, eI q.inc, eI q.seq, eI q.view.add, eI q.view.del, .sl .no [], .sl .no []] b2 b4 b4 0) ?_ ?_ ?_
      · exact ⟨0, ⟨by simp, by simp, by simp, by simp [n12, n21, n13, n31, n23, n32, n14, n41, n24, n42, n34, n43, n15, n51, n25, n52, n35, n53, n45, n54, f1', f2', f3', eSt], by simp [n12, n21, n13, n31, n23, n32, n14, n41, n24, n42, n34, n43, n15, n51, n25, n52, n35, n53, n45, n54, f1', f2', f3'], _, by simp [n12, n21, n13, n31, n23, n32, n14, n41, n24, n42, n34, n43, n15, n51, n25, n52, n35, n53, n45, n54, f1', f2', f3']; rfl, by omega⟩, by simp, by simp, by omega⟩
      · rintro t hh ⟨k, ⟨g1, g7, g10, d2, d4, z, dc, hz⟩, gl, gk, hk⟩
        have hlt' : ¬ (k : Int) < 0 := by omega
        simp -implicitDefEqProofs [gl, gk, hlt']
        exact ⟨by simp [g1], by simp [g7], by simp [g10], d2, d4, z, dc, hz⟩
      rintro t hh ⟨g1, g7, g10, d2, d4, z, dc, hz⟩
      simp -implicitDefEqProofs [g10, d4]
      refine loopK.post (SvL l s [eI a.kind, eI me, eI q.frm, eI q.inc, eI q.seq, eI q.view.add, eI q.view.del, .sl .no [], .sl .no []] b2 b4 b4 0 87 88 0) (fun _ => 0) (SvB l s [eI a.kind, eI me, eI q.frm, eI q.inc, eI q.seq, eI q.view.add, eI q.view.del, .sl .no [], .sl .no []] b2 b4 b4 0) ?_ ?_ ?_
      · exact ⟨0, ⟨by simp [g1], by simp [g7], by simp [g10], d2, d4, z, dc, hz⟩, by simp, by simp, by omega⟩
      · rintro t hh ⟨k, ⟨g1, g7, g10, d2, d4, z, dc, hz⟩, gl, gk, hk⟩
        have hlt' : ¬ (k : Int) < 0 := by omega
        simp -implicitDefEqProofs [gl, gk, hlt']
        exact ⟨by simp [g1], by simp [g7], by simp [g10], d2, d4, z, dc, hz⟩
      rintro t hh ⟨g1, g7, g10, d2, d4, z, dc, hz⟩
      rw [eSt] at d2
      simp -implicitDefEqProofs [g1, g7, d2]
      refine regionK.intro 5 follows_mixed (by kernel_rfl) ?_
      simp -implicitDefEqProofs [g1, g7, d2]
      refine CallQ.with hof (by simp [eV, v7]) ?_
      simp -implicitDefEqProofs [g1, g7, d2]
      refine CallQ.with (same12_spec s s hfit hfit) (by simp [eSt]) ?_
      rw [sameSt_self]
      simp -implicitDefEqProofs
    · obtain ⟨m1, m2, m3⟩ := ne c _ hcell
      have fc := hnew c _ hcell
      have m1' : ¬ c = b1 := fun h => m1 h.symm
      have m2' : ¬ c = b2 := fun h => m2 h.symm
      have m3' : ¬ c = b3 := fun h => m3 h.symm
      simp -implicitDefEqProofs [n12, n21, n13, n31, n23, n32]
      refine allocK.intro (fun b4 hb4 => ?_)
      have n14 : ¬ b1 = b4 := by rintro rfl; simp [f1] at hb4
      have n41 : ¬ b4 = b1 := fun h => n14 h.symm
      have n24 : ¬ b2 = b4 := by rintro rfl; simp [f2] at hb4
      have n42 : ¬ b4 = b2 := fun h => n24 h.symm
      have n34 : ¬ b3 = b4 := by rintro rfl; simp [f3] at hb4
      have n43 : ¬ b4 = b3 := fun h => n34 h.symm
      have m4 : ¬ c = b4 := by rintro rfl; simp [fc] at hb4
      have m4' : ¬ b4 = c := fun h => m4 h.symm
      simp -implicitDefEqProofs [n12, n21, n13, n31, n23, n32, n14, n41, n24, n42, n34, n43, m1, m1', m2, m2', m3, m3', m4, m4', f1', f2', f3']
      refine regionK.modes [] [.q, .q, .q, .q, .q, .q, .q, .q, .q, .q, .l, .r, .s, .r] follows_mixed (by kernel_rfl) ?_
      simp -implicitDefEqProofs [n12, n21, n13, n31, n23, n32, n14, n41, n24, n42, n34, n43, m1, m1', m2, m2', m3, m3', m4, m4', f1', f2', f3']
      refine CallQ.with hof (by simp [eV, v7]) ?_
      simp -implicitDefEqProofs [n12, n21, n13, n31, n23, n32, n14, n41, n24, n42, n34, n43, m1, m1', m2, m2', m3, m3', m4, m4', f1', f2', f3']
      refine CallQ.with hsd (by simp [eSt, eM]) ?_
      simp -implicitDefEqProofs [n12, n21, n13, n31, n23, n32, n14, n41, n24, n42, n34, n43, m1, m1', m2, m2', m3, m3', m4, m4', f1', f2', f3', eM]
      refine allocK.intro (fun b5 hb5 => ?_)
      have n15 : ¬ b1 = b5 := by rintro rfl; simp [n14, f1] at hb5
      have n51 : ¬ b5 = b1 := fun h => n15 h.symm
      have n25 : ¬ b2 = b5 := by rintro rfl; simp [n24, f2] at hb5
      have n52 : ¬ b5 = b2 := fun h => n25 h.symm
      have n35 : ¬ b3 = b5 := by rintro rfl; simp [n34, f3] at hb5
      have n53 : ¬ b5 = b3 := fun h => n35 h.symm
      have n45 : ¬ b4 = b5 := by rintro rfl; simp at hb5
      have n54 : ¬ b5 = b4 := fun h => n45 h.symm
      have m5 : ¬ c = b5 := by rintro rfl; simp [m4, fc] at hb5
      have m5' : ¬ b5 = c := fun h => m5 h.symm
      simp -implicitDefEqProofs [n12, n21, n13, n31, n23, n32, n14, n41, n24, n42, n34, n43, m1, m1', m2, m2', m3, m3', m4, m4', n15, n51, n25, n52, n35, n53, n45, n54, m5, m5', fc, f1', f2', f3']
      refine CallK.with (same9_spec w w hwf hwf) (by simp) ?_
      rw [sameRs_self2]
      simp -implicitDefEqProofs [n12, n21, n13, n31, n23, n32, n14, n41, n24, n42, n34, n43, m1, m1', m2, m2', m3, m3', m4, m4', n15, n51, n25, n52, n35, n53, n45, n54, m5, m5', fc, f1', f2', f3']
      refine CallK.lend c cells (eEs a.book) (by simp [n12, n21, n13, n31, n23, n32, n14, n41, n24, n42, n34, n43, m1, m1', m2, m2', m3, m3', m4, m4', n15, n51, n25, n52, n35, n53, n45, n54, m5, m5', fc, f1', f2', f3']) hch (same11_spec a a haf haf) (by simp [frz2, frz1, frz0, eM, th1, th2, th3, th4, th5, hc0, List.take_of_length_le]) (by rintro _ rfl; rfl) ?_
      rintro _ rfl
      rw [samesM]
      simp -implicitDefEqProofs [n12, n21, n13, n31, n23, n32, n14, n41, n24, n42, n34, n43, m1, m1', m2, m2', m3, m3', m4, m4', n15, n51, n25, n52, n35, n53, n45, n54, m5, m5', fc, f1', f2', f3']
      refine CallK.with (same11_spec q q hfq hfq) (by simp [eM]) ?_
      rw [samesM]
      simp -implicitDefEqProofs [n12, n21, n13, n31, n23, n32, n14, n41, n24, n42, n34, n43, m1, m1', m2, m2', m3, m3', m4, m4', n15, n51, n25, n52, n35, n53, n45, n54, m5, m5', fc, f1', f2', f3']
      have hlen : a.book.length * 4 ≤ cells.length := by have := hch.2.2.1; simpa using this
      intro _
      refine loopK.post (SvL l s [eI a.kind, eI me, eI q.frm, eI q.inc, eI q.seq, eI q.view.add, eI q.view.del, .sl .no [], .sm c 0 a.book.length cc] b2 b4 c (a.book.length * 4) 75 76 a.book.length) (fun t => a.book.length - natOf (t 76)) (SvB l s [eI a.kind, eI me, eI q.frm, eI q.inc, eI q.seq, eI q.view.add, eI q.view.del, .sl .no [], .sm c 0 a.book.length cc] b2 b4 c (a.book.length * 4)) ?_ ?_ ?_
      · exact ⟨0, ⟨by simp, by simp, by simp, by simp [n12, n21, n13, n31, n23, n32, n14, n41, n24, n42, n34, n43, m1, m1', m2, m2', m3, m3', m4, m4', n15, n51, n25, n52, n35, n53, n45, n54, m5, m5', fc, f1', f2', f3', eSt], by simp [n12, n21, n13, n31, n23, n32, n14, n41, n24, n42, n34, n43, m1, m1', m2, m2', m3, m3', m4, m4', n15, n51, n25, n52, n35, n53, n45, n54, m5, m5', fc, f1', f2', f3'], cells, by simp [n12, n21, n13, n31, n23, n32, n14, n41, n24, n42, n34, n43, m1, m1', m2, m2', m3, m3', m4, m4', n15, n51, n25, n52, n35, n53, n45, n54, m5, m5', fc, f1', f2', f3'], hlen⟩, by simp, by simp, by omega⟩
      · rintro t hh ⟨k, ⟨g1, g7, g10, d2, d4, z, dc, hz⟩, gl, gk, hk⟩
        by_cases hlt : k < a.book.length
        · have hlt' : (k : Int) < ((a.book.length : Nat) : Int) := by omega
          have hw : IntKind.i64.wrap ((k : Int) + 1) = ((k + 1 : Nat) : Int) := by rw [w64 (by omega) (by omega)]; omega
          have hz1 : k * 4 + 1 ≤ z.length := by omega
          have d4' := d4
          simp -implicitDefEqProofs [gl, gk, hlt, hlt', g10, d4', dc, hz1, hw]
          exact ⟨⟨k + 1, ⟨by simp [g1], by simp [g7], by simp [g10], by simp [m2, m2', d2], by simp [m4, m4', d4], _, by simp; rfl, by simp; omega⟩, by simp [gl], by simp, by omega⟩, by omega⟩
        · have hlt' : ¬ (k : Int) < ((a.book.length : Nat) : Int) := by omega
          simp -implicitDefEqProofs [gl, gk, hlt']
          exact ⟨by simp [g1], by simp [g7], by simp [g10], d2, d4, z, dc, hz⟩
      rintro t hh ⟨g1, g7, g10, d2, d4, z, dc, hz⟩
      simp -implicitDefEqProofs [g10, d4]
      refine loopK.post (SvL l s [eI a.kind, eI me, eI q.frm, eI q.inc, eI q.seq, eI q.view.add, eI q.view.del, .sl .no [], .sm c 0 a.book.length cc] b2 b4 c (a.book.length * 4) 87 88 0) (fun _ => 0) (SvB l s [eI a.kind, eI me, eI q.frm, eI q.inc, eI q.seq, eI q.view.add, eI q.view.del, .sl .no [], .sm c 0 a.book.length cc] b2 b4 c (a.book.length * 4)) ?_ ?_ ?_
      · exact ⟨0, ⟨by simp [g1], by simp [g7], by simp [g10], d2, d4, z, dc, hz⟩, by simp, by simp, by omega⟩
      · rintro t hh ⟨k, ⟨g1, g7, g10, d2, d4, z, dc, hz⟩, gl, gk, hk⟩
        have hlt' : ¬ (k : Int) < 0 := by omega
        simp -implicitDefEqProofs [gl, gk, hlt']
        exact ⟨by simp [g1], by simp [g7], by simp [g10], d2, d4, z, dc, hz⟩
      rintro t hh ⟨g1, g7, g10, d2, d4, z, dc, hz⟩
      rw [eSt] at d2
      simp -implicitDefEqProofs [g1, g7, d2]
      refine regionK.intro 5 follows_mixed (by kernel_rfl) ?_
      simp -implicitDefEqProofs [g1, g7, d2]
      refine CallQ.with hof (by simp [eV, v7]) ?_
      simp -implicitDefEqProofs [g1, g7, d2]
      refine CallQ.with (same12_spec s s hfit hfit) (by simp [eSt]) ?_
      rw [sameSt_self]
      simp -implicitDefEqProofs
end Go.Proofs.YtjbbfiagijjdoaaGreat
