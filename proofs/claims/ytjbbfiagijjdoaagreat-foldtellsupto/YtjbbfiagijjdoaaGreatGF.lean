/- Parts of the proof: what is used by the law. No condition. -/
import Derived.Test.YtjbbfiagijjdoaaGreatGE
set_option linter.unusedSimpArgs false
set_option linter.unusedVariables false
/- Contracts: the document's: are two states the same? No condition. -/
set_option linter.unusedSimpArgs false
set_option linter.unusedVariables false
set_option maxRecDepth 10000
namespace Go.Proofs.YtjbbfiagijjdoaaGreat
open Go Go.Rw Go.Proofs
-- a goal is never to be run by the elaborator
attribute [local irreducible] awp aops aop aopsE aeff

/-- a state whose values are of 64 bits -/
def fitS (s : PState) : Prop := ∀ x ∈ s.books, ∀ e ∈ x.book, e.value < 18446744073709551616
def S12 (a b : PState) (b1 b2 : Nat) (t : Nat → AV) (h : Nat → Option (List AV)) : Prop := t 2 = .ptr b1 0 ∧ t 3 = .ptr b2 0 ∧ h b1 = some (eSt a) ∧ h b2 = some (eSt b)
def S12B (a b : PState) (b1 b2 : Nat) (t : Nat → AV) (h : Nat → Option (List AV)) : Prop := ∃ k : Nat, S12 a b b1 b2 t h ∧ t 56 = eI a.books.length ∧ t 57 = eI k ∧ k ≤ a.books.length ∧ sameVBs (a.books.drop k) (b.books.drop k) = sameVBs a.books b.books
def S12D (a b : PState) (b1 b2 : Nat) (t : Nat → AV) (h : Nat → Option (List AV)) : Prop := ∃ k : Nat, S12 a b b1 b2 t h ∧ t 92 = eI a.cells.length ∧ t 93 = eI k ∧ k ≤ a.cells.length ∧ sameVCs (a.cells.drop k) (b.cells.drop k) = sameVCs a.cells b.cells
def S12E (a b : PState) (b1 b2 : Nat) (t : Nat → AV) (h : Nat → Option (List AV)) : Prop := ∃ k : Nat, S12 a b b1 b2 t h ∧ t 128 = eI a.intents.length ∧ t 129 = eI k ∧ k ≤ a.intents.length ∧ a.intents.take k = b.intents.take k
def S12M (a b : PState) (b1 b2 : Nat) (P : Prop) (t : Nat → AV) (h : Nat → Option (List AV)) : Prop := S12 a b b1 b2 t h ∧ P
theorem same12_spec (a b : PState) (ha : fitS a) (hb : fitS b) : ASpec Tryz.prog 27 [.agg (eSt a), .agg (eSt b)] (· = .v (.bool (sameSt a b))) := by
  refine ASpec.of_awp Tryz.func27 (by kernel_rfl) rfl (by rw [Tryz.results27]) Tryz.ntmps27 ?_
  simp -implicitDefEqProofs [eSt]
  refine allocK.intro (fun b1 hb1 => ?_)
  simp -implicitDefEqProofs
  refine allocK.intro (fun b2 hb2 => ?_)
  have n12 : ¬ b1 = b2 := by rintro rfl; simp at hb2
  have n21 : ¬ b2 = b1 := fun h => n12 h.symm
  simp -implicitDefEqProofs [n12, n21]
  intro l1 l2
  by_cases h1 : a.books.length = b.books.length
  rotate_left
  · have e : sameSt a b = false := by unfold sameSt; rw [sameVBs_len h1]; rfl
    have h1' : ¬ (a.books.length : Int) = (b.books.length : Int) := by omega
    simp -implicitDefEqProofs [n12, n21, h1, h1', e]
  simp -implicitDefEqProofs [n12, n21, h1]
  intro l3 l4
  by_cases h2 : a.cells.length = b.cells.length
  rotate_left
  · have e : sameSt a b = false := by unfold sameSt; rw [sameVCs_len h2]; simp
    have h2' : ¬ (a.cells.length : Int) = (b.cells.length : Int) := by omega
    simp -implicitDefEqProofs [n12, n21, h2, h2', e]
  simp -implicitDefEqProofs [n12, n21, h2]
  intro l5 l6
  by_cases h3 : a.intents.length = b.intents.length
  rotate_left
  · have e0 : ¬ a.intents = b.intents := fun h => h3 (by rw [h])
    have e : sameSt a b = false := by unfold sameSt; simp [e0]
    have h3' : ¬ (a.intents.length : Int) = (b.intents.length : Int) := by omega
    simp -implicitDefEqProofs [n12, n21, h3, h3', e]
  by_cases h4 : a.held.add = b.held.add
  rotate_left
  · have e0 : ¬ a.held = b.held := fun h => h4 (by rw [h])
    have e : sameSt a b = false := by unfold sameSt; simp [e0]
    have h4' : (a.held.add == b.held.add) = false := by simpa using h4
    simp -implicitDefEqProofs [n12, n21, h3, h4, h4', e]
  by_cases h5 : a.held.del = b.held.del
  rotate_left
  · have e0 : ¬ a.held = b.held := fun h => h5 (by rw [h])
    have e : sameSt a b = false := by unfold sameSt; simp [e0]
    have h5' : (a.held.del == b.held.del) = false := by simpa using h5
    simp -implicitDefEqProofs [n12, n21, h3, h4, h5, h5', e]
  by_cases h6 : a.inc = b.inc
  rotate_left
  · have e : sameSt a b = false := by unfold sameSt; simp [h6]
    simp -implicitDefEqProofs [n12, n21, h3, h4, h5, h6, e]
  by_cases h7 : a.last = b.last
  rotate_left
  · have e : sameSt a b = false := by unfold sameSt; simp [h7]
    simp -implicitDefEqProofs [n12, n21, h3, h4, h5, h6, h7, e]
  have hheld : a.held = b.held := by cases hx : a.held; cases hy : b.held; simp_all
  have hrest : sameSt a b = (sameVBs a.books b.books && (sameVCs a.cells b.cells && decide (a.intents = b.intents))) := by simp only [sameSt, hheld, h6, h7, decide_true, Bool.and_true]
  rw [hrest]
  simp -implicitDefEqProofs [n12, n21, h3, h4, h5, h6, h7]
  intro _
  have eA : eSt a = [.sl .no (rowsVB a.books), .sl .no (rowsVC a.cells), .sl .no (rowsVI a.intents), eI a.held.add, eI a.held.del, eI a.inc, eI a.last] := rfl
  have eB : eSt b = [.sl .no (rowsVB b.books), .sl .no (rowsVC b.cells), .sl .no (rowsVI b.intents), eI b.held.add, eI b.held.del, eI b.inc, eI b.last] := rfl
  refine loopK.post (S12B a b b1 b2) (fun t => a.books.length - natOf (t 57)) (S12M a b b1 b2 (sameVBs a.books b.books = true)) ?_ ?_ ?_
  · exact ⟨0, ⟨by simp, by simp, by simp [n12, n21, eSt, h4, h5, h6, h7], by simp [eSt, h4, h5, h6, h7]⟩, by simp, by simp, by omega, by simp⟩

  · rintro t hh ⟨k, ⟨g2, g3, c1, c2⟩, gl, gk, hk, he⟩
    by_cases hlt : k < a.books.length
    · have hlt' : (k : Int) < (a.books.length : Int) := by omega
      have hlt2 : k < b.books.length := by omega
      obtain ⟨x, hx⟩ : ∃ x, a.books[k]? = some x := ⟨a.books[k], by simp [hlt]⟩
      obtain ⟨y, hy⟩ : ∃ y, b.books[k]? = some y := ⟨b.books[k], by simp [hlt2]⟩
      have hw : IntKind.i64.wrap ((k : Int) + 1) = ((k + 1 : Nat) : Int) := by rw [w64 (by omega) (by omega)]; omega
      have hdx : a.books.drop k = x :: a.books.drop (k + 1) := by
        rw [List.drop_eq_getElem_cons hlt]; rw [List.getElem?_eq_getElem hlt] at hx; rw [Option.some.inj hx]
      have hdy : b.books.drop k = y :: b.books.drop (k + 1) := by
        rw [List.drop_eq_getElem_cons hlt2]; rw [List.getElem?_eq_getElem hlt2] at hy; rw [Option.some.inj hy]
      rw [hdx, hdy, sameVBs] at he
      have c1' := c1
      have c2' := c2
      rw [eA] at c1'
      rw [eB] at c2'
      simp -implicitDefEqProofs [gl, gk, hlt']
      refine regionK.intro 29 follows_mixed (by kernel_rfl) ?_
      by_cases v1 : x.view.add = y.view.add
      · by_cases v2 : x.view.del = y.view.del
        · have hv : x.view = y.view := by cases hx : x.view; cases hy : y.view; simp_all
          simp -implicitDefEqProofs [g2, g3, c1', c2', hx, hy, eVB, v1, v2]
          refine CallQ.eq (same7_spec x.book y.book (ha x (List.mem_of_getElem? hx)) (hb y (List.mem_of_getElem? hy))) ?_
          simp -implicitDefEqProofs
          refine branch_intro (fun h8 => ?_) (fun h8 => ?_)
          · have e8 : sameEs x.book y.book = true := by simpa using h8
            rw [sameVB, e8] at he
            simp only [hv, decide_true, Bool.true_and] at he
            simp -implicitDefEqProofs [gk, hw]
            exact ⟨⟨k + 1, ⟨by simp [g2], by simp [g3], c1, c2⟩, by simp [gl], by simp, by omega, he⟩, by omega⟩
          · have e8 : sameEs x.book y.book = false := by simpa using h8
            rw [sameVB, e8, Bool.and_false, Bool.false_and] at he
            simp -implicitDefEqProofs [← he]
        · have hv : ¬ x.view = y.view := fun h => v2 (by rw [h])
          have v2' : (x.view.del == y.view.del) = false := by simpa using v2
          have e8 : sameVBs (x :: a.books.drop (k + 1)) (y :: b.books.drop (k + 1)) = false := by simp [sameVBs, sameVB, hv]
          rw [sameVB] at he
          simp only [hv, decide_false, Bool.false_and] at he
          simp -implicitDefEqProofs [g2, g3, c1', c2', hx, hy, eVB, v1, v2, v2', ← he]
      · have hv : ¬ x.view = y.view := fun h => v1 (by rw [h])
        have v1' : (x.view.add == y.view.add) = false := by simpa using v1
        rw [sameVB] at he
        simp only [hv, decide_false, Bool.false_and] at he
        simp -implicitDefEqProofs [g2, g3, c1', c2', hx, hy, eVB, v1, v1', ← he]
    · have hlt' : ¬ (k : Int) < (a.books.length : Int) := by omega
      simp -implicitDefEqProofs [gl, gk, hlt']
      rw [List.drop_eq_nil_of_le (by omega), List.drop_eq_nil_of_le (by omega)] at he
      exact ⟨⟨by simp [g2], by simp [g3], c1, c2⟩, by rw [← he]; rfl⟩
  rintro t hh ⟨⟨g2, g3, c1, c2⟩, hB⟩
  rw [hB, Bool.true_and]
  have c1' := c1
  rw [eA] at c1'
  simp -implicitDefEqProofs [g2, c1']
  intro _
  refine loopK.post (S12D a b b1 b2) (fun t => a.cells.length - natOf (t 93)) (S12M a b b1 b2 (sameVCs a.cells b.cells = true)) ?_ ?_ ?_
  · exact ⟨0, ⟨by simp [g2], by simp [g3], c1, c2⟩, by simp, by simp, by omega, by simp⟩

  · rintro t hh ⟨k, ⟨g2, g3, c1, c2⟩, gl, gk, hk, he⟩
    by_cases hlt : k < a.cells.length
    · have hlt' : (k : Int) < (a.cells.length : Int) := by omega
      have hlt2 : k < b.cells.length := by omega
      obtain ⟨x, hx⟩ : ∃ x, a.cells[k]? = some x := ⟨a.cells[k], by simp [hlt]⟩
      obtain ⟨y, hy⟩ : ∃ y, b.cells[k]? = some y := ⟨b.cells[k], by simp [hlt2]⟩
      have hw : IntKind.i64.wrap ((k : Int) + 1) = ((k + 1 : Nat) : Int) := by rw [w64 (by omega) (by omega)]; omega
      have hdx : a.cells.drop k = x :: a.cells.drop (k + 1) := by
        rw [List.drop_eq_getElem_cons hlt]; rw [List.getElem?_eq_getElem hlt] at hx; rw [Option.some.inj hx]
      have hdy : b.cells.drop k = y :: b.cells.drop (k + 1) := by
        rw [List.drop_eq_getElem_cons hlt2]; rw [List.getElem?_eq_getElem hlt2] at hy; rw [Option.some.inj hy]
      rw [hdx, hdy, sameVCs] at he
      have c1' := c1
      have c2' := c2
      rw [eA] at c1'
      rw [eB] at c2'
      simp -implicitDefEqProofs [gl, gk, hlt']
      refine regionK.intro 29 follows_mixed (by kernel_rfl) ?_
      by_cases v1 : x.view.add = y.view.add
      · by_cases v2 : x.view.del = y.view.del
        · have hv : x.view = y.view := by cases hx : x.view; cases hy : y.view; simp_all
          simp -implicitDefEqProofs [g2, g3, c1', c2', hx, hy, eVC, v1, v2]
          refine CallQ.eq (same10_spec x.cells y.cells) ?_
          simp -implicitDefEqProofs
          refine branch_intro (fun h8 => ?_) (fun h8 => ?_)
          · have e8 : decide (x.cells = y.cells) = true := by simpa using h8
            rw [sameVC, e8] at he
            simp only [hv, decide_true, Bool.true_and] at he
            simp -implicitDefEqProofs [gk, hw]
            exact ⟨⟨k + 1, ⟨by simp [g2], by simp [g3], c1, c2⟩, by simp [gl], by simp, by omega, he⟩, by omega⟩
          · have e8 : decide (x.cells = y.cells) = false := by simpa using h8
            rw [sameVC, e8, Bool.and_false, Bool.false_and] at he
            simp -implicitDefEqProofs [← he]
        · have hv : ¬ x.view = y.view := fun h => v2 (by rw [h])
          have v2' : (x.view.del == y.view.del) = false := by simpa using v2
          have e8 : sameVCs (x :: a.cells.drop (k + 1)) (y :: b.cells.drop (k + 1)) = false := by simp [sameVCs, sameVC, hv]
          rw [sameVC] at he
          simp only [hv, decide_false, Bool.false_and] at he
          simp -implicitDefEqProofs [g2, g3, c1', c2', hx, hy, eVC, v1, v2, v2', ← he]
      · have hv : ¬ x.view = y.view := fun h => v1 (by rw [h])
        have v1' : (x.view.add == y.view.add) = false := by simpa using v1
        rw [sameVC] at he
        simp only [hv, decide_false, Bool.false_and] at he
        simp -implicitDefEqProofs [g2, g3, c1', c2', hx, hy, eVC, v1, v1', ← he]
    · have hlt' : ¬ (k : Int) < (a.cells.length : Int) := by omega
      simp -implicitDefEqProofs [gl, gk, hlt']
      rw [List.drop_eq_nil_of_le (by omega), List.drop_eq_nil_of_le (by omega)] at he
      exact ⟨⟨by simp [g2], by simp [g3], c1, c2⟩, by rw [← he]; rfl⟩
  rintro t hh ⟨⟨g2, g3, c1, c2⟩, hC⟩
  rw [hC, Bool.true_and]
  have c1' := c1
  rw [eA] at c1'
  simp -implicitDefEqProofs [g2, c1']
  intro _
  refine loopK.post (S12E a b b1 b2) (fun t => a.intents.length - natOf (t 129)) (S12M a b b1 b2 (a.intents = b.intents)) ?_ ?_ ?_
  · exact ⟨0, ⟨by simp [g2], by simp [g3], c1, c2⟩, by simp, by simp, by omega, by simp⟩

  · rintro t hh ⟨k, ⟨g2, g3, c1, c2⟩, gl, gk, hk, he⟩
    by_cases hlt : k < a.intents.length
    · have hlt' : (k : Int) < (a.intents.length : Int) := by omega
      have hlt2 : k < b.intents.length := by omega
      obtain ⟨x, hx⟩ : ∃ x, a.intents[k]? = some x := ⟨a.intents[k], by simp [hlt]⟩
      obtain ⟨y, hy⟩ : ∃ y, b.intents[k]? = some y := ⟨b.intents[k], by simp [hlt2]⟩
      have hw : IntKind.i64.wrap ((k : Int) + 1) = ((k + 1 : Nat) : Int) := by rw [w64 (by omega) (by omega)]; omega
      have c1' := c1
      have c2' := c2
      rw [eA] at c1'
      rw [eB] at c2'
      simp -implicitDefEqProofs [gl, gk, hlt']
      refine regionK.intro 11 follows_mixed (by kernel_rfl) ?_
      simp -implicitDefEqProofs [g2, g3, c1', c2', hx, hy, eVI]
      refine branch_intro (fun hb2 => ?_) (fun hb2 => ?_)
      · have hne : x ≠ y := by rintro rfl; simp at hb2
        have hno : ¬ a.intents = b.intents := fun h => by rw [h, hy] at hx; exact hne (Option.some.inj hx).symm
        simp -implicitDefEqProofs [hno]
      · have hxy : x = y := by
          rw [viEq]
          simp at hb2
          simp [hb2]
        simp -implicitDefEqProofs [gk, hw]
        refine ⟨⟨k + 1, ⟨by simp [g2], by simp [g3], c1, c2⟩, by simp [gl], by simp, by omega, ?_⟩, by omega⟩
        rw [List.take_add_one, List.take_add_one, he, hx, hy, hxy]
    · have hlt' : ¬ (k : Int) < (a.intents.length : Int) := by omega
      simp -implicitDefEqProofs [gl, gk, hlt']
      rw [List.take_of_length_le (by omega), List.take_of_length_le (by omega)] at he
      exact ⟨⟨by simp [g2], by simp [g3], c1, c2⟩, he⟩
  rintro t hh ⟨⟨g2, g3, c1, c2⟩, hE⟩
  simp -implicitDefEqProofs [hE]
end Go.Proofs.YtjbbfiagijjdoaaGreat

/- The law FoldSteps, walked. No condition. -/
set_option linter.unusedSimpArgs false
set_option linter.unusedVariables false
set_option maxRecDepth 10000
namespace Go.Proofs.YtjbbfiagijjdoaaGreat
open Go Go.Rw Go.Proofs
-- a goal is never to be run by the elaborator
attribute [local irreducible] awp aops aop aopsE aeff

theorem merge_from {a b : List PEntry} {x : PEntry} (h : x ∈ mergeE a b) : x ∈ a ∨ x ∈ b := by
  obtain ⟨_, h1, h2⟩ := mergeK_mem.1 h
  have key : ∀ c : List PEntry, x = findE c x.key → x ∈ c := fun c hc => by
    rw [findE_look] at hc
    cases hl : lookK keyE c x.key with
    | none => rw [hl] at hc; rw [hc] at h2; simp at h2
    | some y => rw [hl] at hc; simp at hc; rw [hc]; exact (look_some hl).1
  unfold newerE at h1
  split at h1
  · exact .inr (key b h1)
  · exact .inl (key a h1)
theorem fit_apply {n : Nat} {s : PState} (hs : OkT n s) {r : PRec} (hr : rightR r = true) (h : fitS s) (hf : fitR r) : fitS (applyS s r) := by
  intro x hx e he
  rw [look_mem (okN_apply hs.toOkN hr).sb, apply_books] at hx
  split at hx
  · obtain rfl := Option.some.inj hx
    rcases merge_from he with h1 | h1
    · rw [bookS_look hs.sb] at h1
      cases hl : lookK keyVB s.books (nameV r.view) with
      | none => rw [hl] at h1; simp at h1
      | some y => rw [hl] at h1; exact h y (look_some hl).1 e h1
    · simp at h1; rw [h1]; exact hf
  · exact h x (look_some hx).1 e he
theorem fit_fold {v : PView} (hv : rightV v = true) {l : List PRec} (hl : ∀ r ∈ l, rightR r = true) (hf : ∀ r ∈ l, fitR r) (k : Nat) (hk : k ≤ l.length) : fitS (foldS v (l.take k)) := by
  induction k with
  | zero => intro x hx; simp [foldS, newS] at hx
  | succ k ih =>
    have hx : l[k]? = some l[k] := List.getElem?_eq_getElem (by omega)
    rw [foldS_step hx]
    exact fit_apply (okT_fold hv hl k (by omega)) (hl _ (List.mem_of_getElem? hx)) (ih (by omega)) (hf _ (List.mem_of_getElem? hx))
def SpI (n : Nat) (v : PView) (l : List PRec) (r : PRec) (s t1 : PState) (b1 b2 b3 b4 : Nat) (t : Nat → AV) (h : Nat → Option (List AV)) : Prop := ∃ (k : Nat) (tg : Tag), t 1 = .sl .no (eRs l) ∧ t 3 = .ptr b1 0 ∧ t 5 = .ptr b2 0 ∧ t 7 = .ptr b3 0 ∧ t 8 = .ptr b4 0 ∧ t 9 = .sl tg (eRs (l ++ [r])) ∧ t 58 = eI n ∧ t 59 = eI k ∧ k ≤ n ∧ h b1 = some (eV v) ∧ h b2 = some (eRc r) ∧ h b3 = some (eSt s) ∧ h b4 = some (eSt t1)
def SpM (v : PView) (l : List PRec) (r : PRec) (s t1 : PState) (b1 b2 b3 b4 : Nat) (t : Nat → AV) (h : Nat → Option (List AV)) : Prop := ∃ tg : Tag, t 1 = .sl .no (eRs l) ∧ t 3 = .ptr b1 0 ∧ t 5 = .ptr b2 0 ∧ t 7 = .ptr b3 0 ∧ t 8 = .ptr b4 0 ∧ t 9 = .sl tg (eRs (l ++ [r])) ∧ h b1 = some (eV v) ∧ h b2 = some (eRc r) ∧ h b3 = some (eSt s) ∧ h b4 = some (eSt t1)
end Go.Proofs.YtjbbfiagijjdoaaGreat

/- The law FoldTells. No condition. -/
set_option linter.unusedSimpArgs false
set_option linter.unusedVariables false
set_option maxRecDepth 10000
namespace Go.Proofs.YtjbbfiagijjdoaaGreat
open Go Go.Rw Go.Proofs
-- a goal is never to be run by the elaborator
attribute [local irreducible] awp aops aop aopsE aeff

theorem sameEs_it : ∀ l : List PEntry, sameEs l l = true
  | [] => rfl
  | x :: l => by rw [sameEs, sameEs_it l]; simp [sameE]
theorem tells12_law (v : PView) (l : List PRec) (q : PView) (hf : ∀ r ∈ l, fitR r) (hl : l.length ≤ 1048576) : ASpec Tryz.prog 5 [.agg (eV v), .sl .no (eRs l), .agg (eV q)] (· = .v (.bool true)) := by
  refine ASpec.of_awp Tryz.func5 (by kernel_rfl) rfl (by rw [Tryz.results5]) Tryz.ntmps5 ?_
  simp -implicitDefEqProofs [eV]
  refine allocK.intro (fun b1 hb1 => ?_)
  simp -implicitDefEqProofs
  refine allocK.intro (fun b2 hb2 => ?_)
  have n12 : ¬ b1 = b2 := by rintro rfl; simp at hb2
  have n21 : ¬ b2 = b1 := fun h => n12 h.symm
  simp -implicitDefEqProofs [n12, n21]
  refine CallK.eq alive12_spec ?_
  simp -implicitDefEqProofs [n12, n21]
  intro _
  by_cases h60 : 60 < l.length
  · have h60' : (60 : Int) < (l.length : Int) := by omega
    simp -implicitDefEqProofs [n12, n21, h60, h60']
  have h60' : ¬ (60 : Int) < (l.length : Int) := by omega
  simp -implicitDefEqProofs [n12, n21, h60, h60']
  refine CallK.with (right12_spec v l hf (by omega)) (by simp [eV]) ?_
  cases hr : (l.all rightR && rightV v)
  · simp -implicitDefEqProofs
  obtain ⟨hr1, hv⟩ := right12_of hr
  simp -implicitDefEqProofs [n12, n21]
  refine CallK.with (right4_spec q) (by simp [eV]) ?_
  cases hq : rightV q
  · simp -implicitDefEqProofs
  have hfold := fold_spec v l hv hr1 (by omega)
  have hok := okT_fold hv hr1 l.length (Nat.le_refl _)
  have hfit := fit_fold hv hr1 hf l.length (Nat.le_refl _)
  have htl := tells_fold hv hr1 l.length (Nat.le_refl _)
  rw [List.take_length] at hok hfit htl
  have hof := of12_spec v l hv hr1 (by omega)
  rw [state_eq hv hr1] at hof
  have hall := all_right hok
  have hal := all_len hok
  have hseen := seen_is (foldS v l) hall (by omega)
  have hseen2 := seen12r_spec (foldS v l) hall (by omega)
  have hi := intent_spec (foldS v l) q (hok.ok (by omega)) hq
  have hi2 := intent12_spec l q (by omega)
  have hbs := book_spec (foldS v l) q (hok.ok (by omega)) hq
  have hcs := cells_spec (foldS v l) q (hok.ok (by omega)) hq
  have hb2s := book12_spec l q (by omega)
  have hc2s := cells12_spec l q (by omega)
  rw [← htl.book q hq] at hb2s
  rw [← htl.cells q hq] at hc2s
  rw [← htl.intent q hq] at hi2
  have hfb : ∀ x ∈ bookS (foldS v l) q, x.value < 18446744073709551616 := by
    rw [bookS_look hok.sb]
    intro x hx
    cases hlk : lookK keyVB (foldS v l).books (nameV q) with
    | none => rw [hlk] at hx; simp at hx
    | some y => rw [hlk] at hx; exact hfit y (look_some hlk).1 x hx
  have hs7 := same7_spec (bookS (foldS v l) q) (bookS (foldS v l) q) hfb hfb
  rw [sameEs_it] at hs7
  have hs10 := same10_spec (cellsS (foldS v l) q) (cellsS (foldS v l) q)
  have hs5 := same5_spec (seenV (foldS v l)) (seenV (foldS v l))
  have hs12 := same12_spec (foldS v l) (foldS v l) hfit hfit
  rw [sameSt_self] at hs12
  rw [intentA] at hi
  rw [intentA'] at hi2
  clear hok htl hall hal hfit hfb
  generalize bookS (foldS v l) q = bk at *
  generalize cellsS (foldS v l) q = cl at *
  generalize intentS (foldS v l) q = it at *
  generalize seenV (foldS v l) = out at *
  generalize foldS v l = s at *
  simp -implicitDefEqProofs [n12, n21]
  refine regionK.modes [] [.q, .q, .q, .q, .q, .l, .s] follows_mixed (by kernel_rfl) ?_
  simp -implicitDefEqProofs [n12, n21]
  refine ⟨by omega, ?_⟩
  refine CallQ.with hfold (by simp [eV]) ?_
  simp -implicitDefEqProofs [eSt]
  refine allocK.intro (fun b3 hb3 => ?_)
  have n13 : ¬ b1 = b3 := by rintro rfl; simp [n12] at hb3
  have n31 : ¬ b3 = b1 := fun h => n13 h.symm
  have n23 : ¬ b2 = b3 := by rintro rfl; simp at hb3
  have n32 : ¬ b3 = b2 := fun h => n23 h.symm
  simp -implicitDefEqProofs [n12, n21, n13, n31, n23, n32]
  refine CallK.with hof (by simp [eV]) ?_
  simp -implicitDefEqProofs [eSt]
  refine allocK.intro (fun b4 hb4 => ?_)
  have n14 : ¬ b1 = b4 := by rintro rfl; simp [n12, n13] at hb4
  have n41 : ¬ b4 = b1 := fun h => n14 h.symm
  have n24 : ¬ b2 = b4 := by rintro rfl; simp [n23] at hb4
  have n42 : ¬ b4 = b2 := fun h => n24 h.symm
  have n34 : ¬ b3 = b4 := by rintro rfl; simp at hb4
  have n43 : ¬ b4 = b3 := fun h => n34 h.symm
  simp -implicitDefEqProofs [n12, n21, n13, n31, n23, n32, n14, n41, n24, n42, n34, n43]
  refine CallK.with hi (by simp [eSt, eV]) ?_
  simp -implicitDefEqProofs [eV]
  refine allocK.intro (fun b5 hb5 => ?_)
  have n15 : ¬ b1 = b5 := by rintro rfl; simp [n12, n13, n14] at hb5
  have n51 : ¬ b5 = b1 := fun h => n15 h.symm
  have n25 : ¬ b2 = b5 := by rintro rfl; simp [n23, n24] at hb5
  have n52 : ¬ b5 = b2 := fun h => n25 h.symm
  have n35 : ¬ b3 = b5 := by rintro rfl; simp [n34] at hb5
  have n53 : ¬ b5 = b3 := fun h => n35 h.symm
  have n45 : ¬ b4 = b5 := by rintro rfl; simp at hb5
  have n54 : ¬ b5 = b4 := fun h => n45 h.symm
  simp -implicitDefEqProofs [n12, n21, n13, n31, n23, n32, n14, n41, n24, n42, n34, n43, n15, n51, n25, n52, n35, n53, n45, n54]
  refine CallK.with hi2 (by simp [eV]) ?_
  simp -implicitDefEqProofs [eV]
  refine allocK.intro (fun b6 hb6 => ?_)
  have n16 : ¬ b1 = b6 := by rintro rfl; simp [n12, n13, n14, n15] at hb6
  have n61 : ¬ b6 = b1 := fun h => n16 h.symm
  have n26 : ¬ b2 = b6 := by rintro rfl; simp [n23, n24, n25] at hb6
  have n62 : ¬ b6 = b2 := fun h => n26 h.symm
  have n36 : ¬ b3 = b6 := by rintro rfl; simp [n34, n35] at hb6
  have n63 : ¬ b6 = b3 := fun h => n36 h.symm
  have n46 : ¬ b4 = b6 := by rintro rfl; simp [n45] at hb6
  have n64 : ¬ b6 = b4 := fun h => n46 h.symm
  have n56 : ¬ b5 = b6 := by rintro rfl; simp at hb6
  have n65 : ¬ b6 = b5 := fun h => n56 h.symm
  simp -implicitDefEqProofs [n12, n21, n13, n31, n23, n32, n14, n41, n24, n42, n34, n43, n15, n51, n25, n52, n35, n53, n45, n54, n16, n61, n26, n62, n36, n63, n46, n64, n56, n65]
  refine regionK.intro 22 follows_mixed (by kernel_rfl) ?_
  simp -implicitDefEqProofs [n12, n21, n13, n31, n23, n32, n14, n41, n24, n42, n34, n43, n15, n51, n25, n52, n35, n53, n45, n54, n16, n61, n26, n62, n36, n63, n46, n64, n56, n65]
  refine CallQ.with hs12 (by simp [eSt]) ?_
  simp -implicitDefEqProofs [n12, n21, n13, n31, n23, n32, n14, n41, n24, n42, n34, n43, n15, n51, n25, n52, n35, n53, n45, n54, n16, n61, n26, n62, n36, n63, n46, n64, n56, n65]
  refine CallQ.of hseen (x := .sl .no (eVs out)) (by rintro _ ⟨tag, rfl⟩; simp) ?_
  simp -implicitDefEqProofs [n12, n21, n13, n31, n23, n32, n14, n41, n24, n42, n34, n43, n15, n51, n25, n52, n35, n53, n45, n54, n16, n61, n26, n62, n36, n63, n46, n64, n56, n65]
  refine CallQ.of hseen2 (x := .sl .no (eVs out)) (by rintro _ ⟨tag, rfl⟩; simp) ?_
  simp -implicitDefEqProofs [n12, n21, n13, n31, n23, n32, n14, n41, n24, n42, n34, n43, n15, n51, n25, n52, n35, n53, n45, n54, n16, n61, n26, n62, n36, n63, n46, n64, n56, n65]
  refine CallQ.with hs5 (by simp) ?_
  simp -implicitDefEqProofs [n12, n21, n13, n31, n23, n32, n14, n41, n24, n42, n34, n43, n15, n51, n25, n52, n35, n53, n45, n54, n16, n61, n26, n62, n36, n63, n46, n64, n56, n65]
  refine regionK.intro 16 follows_mixed (by kernel_rfl) ?_
  simp -implicitDefEqProofs [n12, n21, n13, n31, n23, n32, n14, n41, n24, n42, n34, n43, n15, n51, n25, n52, n35, n53, n45, n54, n16, n61, n26, n62, n36, n63, n46, n64, n56, n65]
  refine CallQ.of hbs (x := .sl .no (eEs bk)) (by rintro _ ⟨tag, rfl⟩; simp) ?_
  simp -implicitDefEqProofs [n12, n21, n13, n31, n23, n32, n14, n41, n24, n42, n34, n43, n15, n51, n25, n52, n35, n53, n45, n54, n16, n61, n26, n62, n36, n63, n46, n64, n56, n65]
  refine CallQ.of hb2s (x := .sl .no (eEs bk)) (by rintro _ ⟨tag, rfl⟩; simp) ?_
  simp -implicitDefEqProofs [n12, n21, n13, n31, n23, n32, n14, n41, n24, n42, n34, n43, n15, n51, n25, n52, n35, n53, n45, n54, n16, n61, n26, n62, n36, n63, n46, n64, n56, n65]
  refine CallQ.with hs7 (by simp) ?_
  simp -implicitDefEqProofs [n12, n21, n13, n31, n23, n32, n14, n41, n24, n42, n34, n43, n15, n51, n25, n52, n35, n53, n45, n54, n16, n61, n26, n62, n36, n63, n46, n64, n56, n65]
  refine CallQ.of hcs (x := .sl .no (eCs cl)) (by rintro _ ⟨tag, rfl⟩; simp) ?_
  simp -implicitDefEqProofs [n12, n21, n13, n31, n23, n32, n14, n41, n24, n42, n34, n43, n15, n51, n25, n52, n35, n53, n45, n54, n16, n61, n26, n62, n36, n63, n46, n64, n56, n65]
  refine CallQ.of hc2s (x := .sl .no (eCs cl)) (by rintro _ ⟨tag, rfl⟩; simp) ?_
  simp -implicitDefEqProofs [n12, n21, n13, n31, n23, n32, n14, n41, n24, n42, n34, n43, n15, n51, n25, n52, n35, n53, n45, n54, n16, n61, n26, n62, n36, n63, n46, n64, n56, n65]
  refine CallQ.with hs10 (by simp) ?_
  simp -implicitDefEqProofs [n12, n21, n13, n31, n23, n32, n14, n41, n24, n42, n34, n43, n15, n51, n25, n52, n35, n53, n45, n54, n16, n61, n26, n62, n36, n63, n46, n64, n56, n65]
end Go.Proofs.YtjbbfiagijjdoaaGreat
