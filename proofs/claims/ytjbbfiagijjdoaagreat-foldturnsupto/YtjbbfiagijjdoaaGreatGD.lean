/- Parts of the proof: what is used by the law. No condition. -/
import Derived.Test.YtjbbfiagijjdoaaGreatRows
import Derived.OpenShut
import Derived.Test.YtjbbfiagijjdoaaGreatGC
set_option linter.unusedSimpArgs false
set_option linter.unusedVariables false
/- Contracts: the state behind a record. No condition. -/
set_option linter.unusedSimpArgs false
set_option linter.unusedVariables false
set_option maxRecDepth 10000
namespace Go.Proofs.YtjbbfiagijjdoaaGreat
open Go Go.Rw Go.Proofs
-- a goal is never to be run by the elaborator
attribute [local irreducible] awp aops aop aopsE aeff

def applyS (s : PState) (r : PRec) : PState :=
  if r.kind = 1 then { s with books := putK keyVB s.books ⟨r.view, mergeE (bookS s r.view) [r.entry]⟩ }
  else if r.kind = 2 then { s with cells := putK keyVC s.cells ⟨r.view, mergeS (cellsS s r.view) [r.cell]⟩ }
  else if r.kind = 3 then (if withinV s.held r.view = true then { s with held := r.view } else s)
  else if r.kind = 4 then { s with last := max s.last r.n }
  else if r.kind = 5 then (if (intentS s r.view).isSome = true then s else { s with intents := putK keyVI s.intents ⟨r.view, r.cell.change⟩ })
  else if r.kind = 6 then { s with inc := max s.inc r.n }
  else s
theorem apply_spec (s : PState) (r : PRec) (hs : OkS s) (hv : rightV r.view = true) (hc : (cellsS s r.view ++ newsC (cellsS s r.view) [r.cell]).length ≤ 12 ∧ 0 < (cellsS s r.view ++ newsC (cellsS s r.view) [r.cell]).length) :
    ASpec Tryz.prog 44 [.agg (eSt s), .agg (eRc r)] (· = .agg (eSt (applyS s r))) := by
  refine ASpec.of_awp Tryz.func44 (by kernel_rfl) rfl (by rw [Tryz.results44]) Tryz.ntmps44 ?_
  simp -implicitDefEqProofs [eRc, eSt]
  refine allocK.intro (fun b1 hb1 => ?_)
  simp -implicitDefEqProofs
  refine allocK.intro (fun b2 hb2 => ?_)
  have n12 : ¬ b1 = b2 := by rintro rfl; simp at hb2
  have n21 : ¬ b2 = b1 := fun h => n12 h.symm
  simp -implicitDefEqProofs [n12, n21]
  refine allocK.intro (fun b3 hb3 => ?_)
  have n13 : ¬ b1 = b3 := by rintro rfl; simp [n12] at hb3
  have n31 : ¬ b3 = b1 := fun h => n13 h.symm
  have n23 : ¬ b2 = b3 := by rintro rfl; simp at hb3
  have n32 : ¬ b3 = b2 := fun h => n23 h.symm
  by_cases h1 : r.kind = 1
  · simp -implicitDefEqProofs [n12, n21, n13, n31, n23, n32, h1]
    refine regionK.intro 9 follows_mixed (by kernel_rfl) ?_
    simp -implicitDefEqProofs [n12, n21, n13, n31, n23, n32]
    refine CallQ.of (x := .sl .no (eEs (bookS s r.view))) (by have := book_spec s r.view hs hv; simpa [eSt, eV] using this) (by rintro _ ⟨tag, rfl⟩; rfl) ?_
    simp -implicitDefEqProofs [n12, n21, n13, n31, n23, n32]
    refine CallQ.of (x := .sl .no (eEs (mergeE (bookS s r.view) [r.entry]))) (by have := merge_spec (bookS s r.view) [r.entry]; simpa [eEs, eE] using this) (by rintro _ ⟨tag, rfl⟩; rfl) ?_
    simp -implicitDefEqProofs [n12, n21, n13, n31, n23, n32]
    refine regionK.intro 9 follows_mixed (by kernel_rfl) ?_
    simp -implicitDefEqProofs [n12, n21, n13, n31, n23, n32]
    refine CallQ.with shelvedVB_spec rfl ?_
    simp -implicitDefEqProofs [n12, n21, n13, n31, n23, n32]
    refine CallQ.of (x := .sl .no (rowsVB (putK keyVB s.books ⟨r.view, mergeE (bookS s r.view) [r.entry]⟩))) (by have := putVB_spec s.books ⟨r.view, mergeE (bookS s r.view) [r.entry]⟩ hs.sb (by have := hs.lb; omega) hs.rb hv; simpa [rowsVB, eVB] using this) (by rintro _ ⟨tag, rfl⟩; rfl) ?_
    simp -implicitDefEqProofs [n12, n21, n13, n31, n23, n32, applyS, h1, eSt, rowsVB]
  · by_cases h2 : r.kind = 2
    · have h2' : (2 : Int) = 1 ↔ False := by decide
      simp -implicitDefEqProofs [n12, n21, n13, n31, n23, n32, h1, h2]
      refine regionK.intro 9 follows_mixed (by kernel_rfl) ?_
      simp -implicitDefEqProofs [n12, n21, n13, n31, n23, n32]
      refine CallQ.of (x := .sl .no (eCs (cellsS s r.view))) (by have := cells_spec s r.view hs hv; simpa [eSt, eV] using this) (by rintro _ ⟨tag, rfl⟩; rfl) ?_
      simp -implicitDefEqProofs [n12, n21, n13, n31, n23, n32]
      refine CallQ.of (x := .sl .no (eCs (mergeS (cellsS s r.view) [r.cell]))) (by have := cmerge_spec (cellsS s r.view) [r.cell] hc.1 hc.2 (by simp); simpa [eCs, eC] using this) (by rintro _ ⟨tag, rfl⟩; rfl) ?_
      simp -implicitDefEqProofs [n12, n21, n13, n31, n23, n32]
      refine regionK.intro 9 follows_mixed (by kernel_rfl) ?_
      simp -implicitDefEqProofs [n12, n21, n13, n31, n23, n32]
      refine CallQ.with shelvedVC_spec rfl ?_
      simp -implicitDefEqProofs [n12, n21, n13, n31, n23, n32]
      refine CallQ.of (x := .sl .no (rowsVC (putK keyVC s.cells ⟨r.view, mergeS (cellsS s r.view) [r.cell]⟩))) (by have := putVC_spec s.cells ⟨r.view, mergeS (cellsS s r.view) [r.cell]⟩ hs.sc (by have := hs.lc; omega) hs.rc hv; simpa [rowsVC, eVC] using this) (by rintro _ ⟨tag, rfl⟩; rfl) ?_
      simp -implicitDefEqProofs [n12, n21, n13, n31, n23, n32, applyS, h1, h2, eSt, rowsVC]
    · by_cases h3 : r.kind = 3
      · simp -implicitDefEqProofs [n12, n21, n13, n31, n23, n32, h1, h2, h3]
        refine CallK.with (within_spec s.held r.view hs.rh hv) (by simp [eV]) ?_
        cases hw : withinV s.held r.view
        · simp -implicitDefEqProofs [n12, n21, n13, n31, n23, n32, applyS, h1, h2, h3, hw, eSt]
        · simp -implicitDefEqProofs [n12, n21, n13, n31, n23, n32, applyS, h1, h2, h3, hw, eSt]
      · by_cases h4 : r.kind = 4
        · simp -implicitDefEqProofs [n12, n21, n13, n31, n23, n32, h1, h2, h3, h4, applyS, eSt]
          split <;> omega
        · by_cases h5 : r.kind = 5
          · simp -implicitDefEqProofs [n12, n21, n13, n31, n23, n32, h1, h2, h3, h4, h5]
            refine CallK.with (intent_spec s r.view hs hv) (by simp [eSt, eV]) ?_
            rw [intentA]
            simp -implicitDefEqProofs [n12, n21, n13, n31, n23, n32, eV]
            refine allocK.intro (fun b4 hb4 => ?_)
            have n14 : ¬ b1 = b4 := by rintro rfl; simp [n12, n13] at hb4
            have n41 : ¬ b4 = b1 := fun h => n14 h.symm
            have n24 : ¬ b2 = b4 := by rintro rfl; simp [n23] at hb4
            have n42 : ¬ b4 = b2 := fun h => n24 h.symm
            have n34 : ¬ b3 = b4 := by rintro rfl; simp at hb4
            have n43 : ¬ b4 = b3 := fun h => n34 h.symm
            cases ho : (intentS s r.view).isSome
            · simp -implicitDefEqProofs [n12, n21, n13, n31, n23, n32, n14, n41, n24, n42, n34, n43]
              refine regionK.intro 11 follows_mixed (by kernel_rfl) ?_
              simp -implicitDefEqProofs [n12, n21, n13, n31, n23, n32, n14, n41, n24, n42, n34, n43]
              refine CallQ.with shelvedVI_spec rfl ?_
              simp -implicitDefEqProofs [n12, n21, n13, n31, n23, n32, n14, n41, n24, n42, n34, n43]
              refine CallQ.of (x := .sl .no (rowsVI (putK keyVI s.intents ⟨r.view, r.cell.change⟩))) (by have := putVI_spec s.intents ⟨r.view, r.cell.change⟩ hs.si (by have := hs.li; omega) hs.ri hv; simpa [rowsVI, eVI] using this) (by rintro _ ⟨tag, rfl⟩; rfl) ?_
              simp -implicitDefEqProofs [n12, n21, n13, n31, n23, n32, n14, n41, n24, n42, n34, n43, applyS, h1, h2, h3, h4, h5, ho, eSt, rowsVI]
            · simp -implicitDefEqProofs [n12, n21, n13, n31, n23, n32, n14, n41, n24, n42, n34, n43, applyS, h1, h2, h3, h4, h5, ho, eSt]
          · by_cases h6 : r.kind = 6
            · simp -implicitDefEqProofs [n12, n21, n13, n31, n23, n32, h1, h2, h3, h4, h5, h6, applyS, eSt]
              split <;> omega
            · simp -implicitDefEqProofs [n12, n21, n13, n31, n23, n32, h1, h2, h3, h4, h5, h6, applyS, eSt]
end Go.Proofs.YtjbbfiagijjdoaaGreat

/- Plain: states that can be stay so. No condition. -/
set_option linter.unusedSimpArgs false
set_option linter.unusedVariables false
set_option maxRecDepth 10000
namespace Go.Proofs.YtjbbfiagijjdoaaGreat
open Go Go.Rw Go.Proofs

section
variable {α : Type} {key : α → Int}
theorem sort_put {l : List α} (h : sortK key l) (x : α) : sortK key (putK key l x) := by
  unfold sortK putK
  rw [List.pairwise_append, List.pairwise_cons]
  refine ⟨h.filter _, ⟨fun y hy => ?_, h.filter _⟩, fun y hy z hz => ?_⟩
  · have := (List.mem_filter.1 hy).2
    simpa using this
  · have h1 := (List.mem_filter.1 hy).2
    simp at h1
    rcases List.mem_cons.1 hz with rfl | hz
    · exact h1
    · have h2 := (List.mem_filter.1 hz).2
      simp at h2; omega
theorem mem_put {l : List α} {x y : α} (h : y ∈ putK key l x) : y = x ∨ y ∈ l := by
  unfold putK at h
  rcases List.mem_append.1 h with h | h
  · exact .inr (List.mem_filter.1 h).1
  · rcases List.mem_cons.1 h with h | h
    · exact .inl h
    · exact .inr (List.mem_filter.1 h).1
theorem put_len {l : List α} (h : sortK key l) (x : α) : (putK key l x).length ≤ l.length + 1 := by
  unfold putK
  rw [List.length_append, List.length_cons]
  have h1 : (l.filter fun y => decide (key x < key y)).length ≤ (l.filter fun y => decide (¬ key y < key x)).length := by
    rw [← List.countP_eq_length_filter, ← List.countP_eq_length_filter]
    refine List.countP_mono_left fun y _ hy => ?_
    simp at hy ⊢; omega
  obtain ⟨t1, t2⟩ := take_posK h (key x)
  rw [← t2] at h1
  have h2 : (l.filter fun y => decide (key y < key x)).length = (l.take (posK key l (key x))).length := by rw [t1]
  rw [h2, List.length_take]
  rw [List.length_drop] at h1
  have := posK_le (key := key) l (key x)
  omega
end
/-- a state behind at most n records -/
structure OkN (n : Nat) (s : PState) : Prop where
  sb : sortK keyVB s.books
  sc : sortK keyVC s.cells
  si : sortK keyVI s.intents
  rb : ∀ x ∈ s.books, rightV x.view = true
  rc : ∀ x ∈ s.cells, rightV x.view = true
  ri : ∀ x ∈ s.intents, rightV x.view = true
  rh : rightV s.held = true
  lb : s.books.length ≤ n
  lc : s.cells.length ≤ n
  li : s.intents.length ≤ n
  bl : ∀ x ∈ s.books, x.book.length ≤ 4
  cl : ∀ x ∈ s.cells, okCs x.cells
theorem OkN.ok {n : Nat} {s : PState} (h : OkN n s) (hn : n ≤ 100000) : OkS s :=
  ⟨h.sb, h.sc, h.si, h.rb, h.rc, h.ri, h.rh, by have := h.lb; omega, by have := h.lc; omega, by have := h.li; omega, fun x hx => by have := h.bl x hx; omega, fun x hx => by have := okCs_len (h.cl x hx); omega⟩
theorem okCs_nil : okCs [] := ⟨List.Pairwise.nil, fun x hx => by simp at hx⟩
theorem OkN.cells {n : Nat} {s : PState} (h : OkN n s) (v : PView) : okCs (cellsS s v) := by
  unfold cellsS
  split
  · rename_i x hx
    split
    · exact h.cl x (List.mem_of_getElem? hx)
    · exact okCs_nil
  · exact okCs_nil
theorem right_cell {r : PRec} (h : rightR r = true) : rightV r.view = true ∧ 0 ≤ r.cell.node ∧ r.cell.node < 6 := by
  simp [rightR] at h
  exact ⟨h.1.1.1.2, h.1.2.1, h.1.2.2⟩
theorem okCs_one {c : PCell} (h : 0 ≤ c.node ∧ c.node < 6) : okCs [c] := ⟨by simp, fun x hx => by simp at hx; subst hx; exact h⟩
theorem OkN.news {n : Nat} {s : PState} (h : OkN n s) {r : PRec} (hr : rightR r = true) : (cellsS s r.view ++ newsC (cellsS s r.view) [r.cell]).length ≤ 12 ∧ 0 < (cellsS s r.view ++ newsC (cellsS s r.view) [r.cell]).length := by
  refine ⟨news_len (h.cells r.view) (okCs_one (right_cell hr).2), ?_⟩
  rw [List.length_append]
  cases hc : cellsS s r.view with
  | nil => simp [newsC, ofC]
  | cons => simp only [List.length_cons]; omega
theorem OkN.mono {n m : Nat} {s : PState} (h : OkN n s) (hn : n ≤ m) : OkN m s :=
  ⟨h.sb, h.sc, h.si, h.rb, h.rc, h.ri, h.rh, by have := h.lb; omega, by have := h.lc; omega, by have := h.li; omega, h.bl, h.cl⟩
theorem okN_apply {n : Nat} {s : PState} (h : OkN n s) {r : PRec} (hr : rightR r = true) : OkN (n + 1) (applyS s r) := by
  have hv := (right_cell hr).1
  unfold applyS
  split
  · have hl := put_len h.sb ⟨r.view, mergeE (bookS s r.view) [r.entry]⟩
    refine ⟨sort_put h.sb _, h.sc, h.si, fun x hx => ?_, h.rc, h.ri, h.rh, by have := h.lb; simp only; omega, by have := h.lc; simp only; omega, by have := h.li; simp only; omega, fun x hx => ?_, h.cl⟩
    · rcases mem_put hx with rfl | hx
      · exact hv
      · exact h.rb x hx
    · rcases mem_put hx with rfl | hx
      · exact mergeK_le _ _ 4
      · exact h.bl x hx
  · split
    · have hl := put_len h.sc ⟨r.view, mergeS (cellsS s r.view) [r.cell]⟩
      refine ⟨h.sb, sort_put h.sc _, h.si, h.rb, fun x hx => ?_, h.ri, h.rh, by have := h.lb; simp only; omega, by have := h.lc; simp only; omega, by have := h.li; simp only; omega, h.bl, fun x hx => ?_⟩
      · rcases mem_put hx with rfl | hx
        · exact hv
        · exact h.rc x hx
      · rcases mem_put hx with rfl | hx
        · show okCs (mergeS (cellsS s r.view) [r.cell])
          rw [mergeS_eq (h.cells r.view) (okCs_one (right_cell hr).2)]
          exact okCs_merge _ _
        · exact h.cl x hx
    · split
      · split
        · exact ⟨h.sb, h.sc, h.si, h.rb, h.rc, h.ri, hv, by have := h.lb; simp only; omega, by have := h.lc; simp only; omega, by have := h.li; simp only; omega, h.bl, h.cl⟩
        · exact h.mono (by omega)
      · split
        · exact ⟨h.sb, h.sc, h.si, h.rb, h.rc, h.ri, h.rh, by have := h.lb; simp only; omega, by have := h.lc; simp only; omega, by have := h.li; simp only; omega, h.bl, h.cl⟩
        · split
          · split
            · exact h.mono (by omega)
            · have hl := put_len h.si ⟨r.view, r.cell.change⟩
              refine ⟨h.sb, h.sc, sort_put h.si _, h.rb, h.rc, fun x hx => ?_, h.rh, by have := h.lb; simp only; omega, by have := h.lc; simp only; omega, by have := h.li; simp only; omega, h.bl, h.cl⟩
              rcases mem_put hx with rfl | hx
              · exact hv
              · exact h.ri x hx
          · split
            · exact ⟨h.sb, h.sc, h.si, h.rb, h.rc, h.ri, h.rh, by have := h.lb; simp only; omega, by have := h.lc; simp only; omega, by have := h.li; simp only; omega, h.bl, h.cl⟩
            · exact h.mono (by omega)
/-- the state behind records -/
def newS (v : PView) : PState := ⟨[], [], [], v, 0, 0⟩
def foldS (v : PView) (l : List PRec) : PState := l.foldl applyS (newS v)
theorem okN_new {v : PView} (h : rightV v = true) : OkN 0 (newS v) :=
  ⟨List.Pairwise.nil, List.Pairwise.nil, List.Pairwise.nil, fun x hx => by simp [newS] at hx, fun x hx => by simp [newS] at hx, fun x hx => by simp [newS] at hx, h, Nat.le_refl _, Nat.le_refl _, Nat.le_refl _, fun x hx => by simp [newS] at hx, fun x hx => by simp [newS] at hx⟩
theorem foldS_step {v : PView} {l : List PRec} {k : Nat} {r : PRec} (h : l[k]? = some r) : foldS v (l.take (k + 1)) = applyS (foldS v (l.take k)) r := by
  unfold foldS
  rw [List.take_add_one, h, List.foldl_append]; rfl
theorem okN_fold {v : PView} (hv : rightV v = true) {l : List PRec} (hl : ∀ r ∈ l, rightR r = true) (k : Nat) (hk : k ≤ l.length) : OkN k (foldS v (l.take k)) := by
  induction k with
  | zero => simpa [foldS] using okN_new hv
  | succ k ih =>
    have hx : l[k]? = some l[k] := List.getElem?_eq_getElem (by omega)
    rw [foldS_step hx]
    exact okN_apply (ih (by omega)) (hl _ (List.mem_of_getElem? hx))
end Go.Proofs.YtjbbfiagijjdoaaGreat

/- Plain: what a state tells behind a record. No condition. -/
set_option linter.unusedSimpArgs false
set_option linter.unusedVariables false
set_option maxRecDepth 10000
namespace Go.Proofs.YtjbbfiagijjdoaaGreat
open Go Go.Rw Go.Proofs

section
variable {α : Type} {key : α → Int}
/-- what stands behind a name -/
def lookK (key : α → Int) (l : List α) (n : Int) : Option α := l.find? fun x => decide (key x = n)
theorem look_none {l : List α} {n : Int} : lookK key l n = none ↔ ∀ x ∈ l, ¬ key x = n := by
  unfold lookK; simp
theorem look_some {l : List α} {n : Int} {x : α} (h : lookK key l n = some x) : x ∈ l ∧ key x = n :=
  ⟨List.mem_of_find?_eq_some h, by simpa using List.find?_some h⟩
theorem key_inj {l : List α} (hl : sortK key l) {x y : α} (hx : x ∈ l) (hy : y ∈ l) (h : key x = key y) : x = y := by
  unfold sortK at hl
  induction l with
  | nil => simp at hx
  | cons z l ih =>
    rw [List.pairwise_cons] at hl
    rcases List.mem_cons.1 hx with hx1 | hx1
    · rcases List.mem_cons.1 hy with hy1 | hy1
      · rw [hx1, hy1]
      · have := hl.1 y hy1; rw [hx1] at h; omega
    · rcases List.mem_cons.1 hy with hy1 | hy1
      · have := hl.1 x hx1; rw [hy1] at h; omega
      · exact ih hl.2 hx1 hy1
theorem look_mem {l : List α} (hl : sortK key l) {x : α} : x ∈ l ↔ lookK key l (key x) = some x := by
  constructor
  · intro hx
    cases h : lookK key l (key x) with
    | none => exact absurd rfl (look_none.1 h x hx)
    | some y =>
      obtain ⟨h1, h2⟩ := look_some h
      rw [key_inj hl h1 hx h2]
  · exact fun h => (look_some h).1
theorem look_put (l : List α) (x : α) (n : Int) : lookK key (putK key l x) n = if key x = n then some x else lookK key l n := by
  unfold lookK putK
  rw [List.find?_append, List.find?_cons, List.find?_filter, List.find?_filter]
  by_cases h : key x = n
  · have e : l.find? (fun y => decide (decide (key y < key x) = true ∧ decide (key y = n) = true)) = none := List.find?_eq_none.2 fun y _ => by simp; omega
    rw [if_pos h, e]
    simp [h]
  · rw [if_neg h]
    rcases Int.lt_or_gt_of_ne h with h1 | h1
    · have e1 : l.find? (fun y => decide (decide (key y < key x) = true ∧ decide (key y = n) = true)) = none := List.find?_eq_none.2 fun y _ => by simp; omega
      have e2 : (fun y => decide (decide (key x < key y) = true ∧ decide (key y = n) = true)) = fun y => decide (key y = n) := by funext y; by_cases h2 : key y = n <;> simp [h2]; omega
      rw [e1, e2]
      simp [h]
    · have e1 : l.find? (fun y => decide (decide (key x < key y) = true ∧ decide (key y = n) = true)) = none := List.find?_eq_none.2 fun y _ => by simp; omega
      have e2 : (fun y => decide (decide (key y < key x) = true ∧ decide (key y = n) = true)) = fun y => decide (key y = n) := by funext y; by_cases h2 : key y = n <;> simp [h2]; omega
      rw [e1, e2]
      simp [h]
theorem nodupK {l : List α} (hl : sortK key l) : l.Nodup := hl.imp fun h => by rintro rfl; omega
/-- two sorted lists that tell the same are the same -/
theorem sort_ext {l m : List α} (hl : sortK key l) (hm : sortK key m) (h : ∀ n, lookK key l n = lookK key m n) : l = m := by
  have hp : l.Perm m := (List.perm_ext_iff_of_nodup (nodupK hl) (nodupK hm)).2 fun x => by rw [look_mem hl, look_mem hm, h]
  refine List.Perm.eq_of_pairwise (le := fun x y => key x ≤ key y) (fun x y hx hy h1 h2 => ?_) (hl.imp fun h => by omega) (hm.imp fun h => by omega) hp
  exact key_inj hl hx ((hp.mem_iff).2 hy) (by omega)
end
theorem name_inj {v w : PView} (hv : rightV v = true) (hw : rightV w = true) (h : nameV v = nameV w) : v = w := by
  rw [← viewN_name hv, ← viewN_name hw, h]
theorem bookS_look {s : PState} (h : sortK keyVB s.books) (v : PView) : bookS s v = ((lookK keyVB s.books (nameV v)).map (·.book)).getD [] := by
  unfold bookS
  rcases hasK_at h (nameV v) with ⟨x, hx, hk, hh⟩ | ⟨_, hh⟩
  · rw [hx, hh, ← hk, (look_mem h).1 (List.mem_of_getElem? hx)]
    simp
  · have e : lookK keyVB s.books (nameV v) = none := look_none.2 fun x hx hk => by
      have : hasK keyVB s.books (nameV v) = true := by rw [hasK, List.any_eq_true]; exact ⟨x, hx, by simpa using hk⟩
      rw [hh] at this; simp at this
    rw [e, hh]
    split <;> simp
theorem cellsS_look {s : PState} (h : sortK keyVC s.cells) (v : PView) : cellsS s v = ((lookK keyVC s.cells (nameV v)).map (·.cells)).getD [] := by
  unfold cellsS
  rcases hasK_at h (nameV v) with ⟨x, hx, hk, hh⟩ | ⟨_, hh⟩
  · rw [hx, hh, ← hk, (look_mem h).1 (List.mem_of_getElem? hx)]
    simp
  · have e : lookK keyVC s.cells (nameV v) = none := look_none.2 fun x hx hk => by
      have : hasK keyVC s.cells (nameV v) = true := by rw [hasK, List.any_eq_true]; exact ⟨x, hx, by simpa using hk⟩
      rw [hh] at this; simp at this
    rw [e, hh]
    split <;> simp
theorem intentS_look {s : PState} (h : sortK keyVI s.intents) (v : PView) : intentS s v = (lookK keyVI s.intents (nameV v)).map (·.change) := by
  unfold intentS
  rcases hasK_at h (nameV v) with ⟨x, hx, hk, hh⟩ | ⟨_, hh⟩
  · rw [hx, hh, ← hk, (look_mem h).1 (List.mem_of_getElem? hx)]
    simp
  · have e : lookK keyVI s.intents (nameV v) = none := look_none.2 fun x hx hk => by
      have : hasK keyVI s.intents (nameV v) = true := by rw [hasK, List.any_eq_true]; exact ⟨x, hx, by simpa using hk⟩
      rw [hh] at this; simp at this
    rw [e, hh]
    split <;> simp
/-! ### behind a record -/
theorem apply_books (s : PState) (r : PRec) (n : Int) : lookK keyVB (applyS s r).books n = if r.kind = 1 ∧ nameV r.view = n then some ⟨r.view, mergeE (bookS s r.view) [r.entry]⟩ else lookK keyVB s.books n := by
  unfold applyS
  by_cases h1 : r.kind = 1
  · simp only [h1, if_true, true_and]
    rw [look_put]
    rfl
  · have : ¬ (r.kind = 1 ∧ nameV r.view = n) := fun h => h1 h.1
    rw [if_neg this]
    simp only [h1, if_false]
    repeat' split
    all_goals rfl
theorem apply_cells (s : PState) (r : PRec) (n : Int) : lookK keyVC (applyS s r).cells n = if r.kind = 2 ∧ nameV r.view = n then some ⟨r.view, mergeS (cellsS s r.view) [r.cell]⟩ else lookK keyVC s.cells n := by
  unfold applyS
  by_cases h1 : r.kind = 2
  · have h2 : ¬ r.kind = 1 := by omega
    simp only [h1, h2, if_true, true_and, if_false]
    rw [if_neg (by omega), look_put]
    rfl
  · have : ¬ (r.kind = 2 ∧ nameV r.view = n) := fun h => h1 h.1
    rw [if_neg this]
    simp only [h1, if_false]
    repeat' split
    all_goals rfl
theorem apply_intents (s : PState) (r : PRec) (n : Int) : lookK keyVI (applyS s r).intents n = if r.kind = 5 ∧ (intentS s r.view).isSome = false ∧ nameV r.view = n then some ⟨r.view, r.cell.change⟩ else lookK keyVI s.intents n := by
  unfold applyS
  by_cases h1 : r.kind = 5
  · have h2 : ¬ r.kind = 1 := by omega
    have h3 : ¬ r.kind = 2 := by omega
    have h4 : ¬ r.kind = 3 := by omega
    have h5 : ¬ r.kind = 4 := by omega
    rw [if_neg h2, if_neg h3, if_neg h4, if_neg h5, if_pos h1]
    cases ho : (intentS s r.view).isSome
    · simp only [h1, true_and, Bool.false_eq_true, if_false]
      rw [look_put]
      rfl
    · simp
  · have : ¬ (r.kind = 5 ∧ (intentS s r.view).isSome = false ∧ nameV r.view = n) := fun h => h1 h.1
    rw [if_neg this]
    simp only [h1, if_false]
    repeat' split
    all_goals rfl
theorem apply_held (s : PState) (r : PRec) : (applyS s r).held = if r.kind = 3 ∧ withinV s.held r.view = true then r.view else s.held := by
  unfold applyS
  by_cases h1 : r.kind = 3
  · rw [if_neg (by omega), if_neg (by omega), if_pos h1]
    by_cases h2 : withinV s.held r.view = true
    · rw [if_pos h2, if_pos ⟨h1, h2⟩]
    · rw [if_neg h2, if_neg (fun h => h2 h.2)]
  · have : ¬ (r.kind = 3 ∧ withinV s.held r.view = true) := fun h => h1 h.1
    rw [if_neg this]
    simp only [h1, if_false]
    repeat' split
    all_goals rfl
theorem apply_last (s : PState) (r : PRec) : (applyS s r).last = if r.kind = 4 then max s.last r.n else s.last := by
  unfold applyS
  by_cases h1 : r.kind = 4
  · rw [if_neg (by omega), if_neg (by omega), if_neg (by omega), if_pos h1, if_pos h1]
  · rw [if_neg h1]
    simp only [h1, if_false]
    repeat' split
    all_goals rfl
theorem apply_inc (s : PState) (r : PRec) : (applyS s r).inc = if r.kind = 6 then max s.inc r.n else s.inc := by
  unfold applyS
  by_cases h1 : r.kind = 6
  · rw [if_neg (by omega), if_neg (by omega), if_neg (by omega), if_neg (by omega), if_neg (by omega), if_pos h1, if_pos h1]
  · rw [if_neg h1]
    simp only [h1, if_false]
    repeat' split
    all_goals rfl
theorem bookS_apply {n : Nat} {s : PState} (h : OkN n s) {r : PRec} (hr : rightR r = true) {v : PView} (hv : rightV v = true) : bookS (applyS s r) v = if r.kind = 1 ∧ r.view = v then mergeE (bookS s v) [r.entry] else bookS s v := by
  rw [bookS_look (okN_apply h hr).sb, apply_books, bookS_look h.sb v]
  by_cases h1 : r.kind = 1 ∧ r.view = v
  · obtain ⟨h1, rfl⟩ := h1
    rw [if_pos ⟨h1, rfl⟩, if_pos ⟨h1, rfl⟩, bookS_look h.sb]
    rfl
  · rw [if_neg h1, if_neg (fun h2 => h1 ⟨h2.1, name_inj (right_cell hr).1 hv h2.2⟩)]
theorem cellsS_apply {n : Nat} {s : PState} (h : OkN n s) {r : PRec} (hr : rightR r = true) {v : PView} (hv : rightV v = true) : cellsS (applyS s r) v = if r.kind = 2 ∧ r.view = v then mergeC (cellsS s v) [r.cell] else cellsS s v := by
  rw [cellsS_look (okN_apply h hr).sc, apply_cells, cellsS_look h.sc v]
  by_cases h1 : r.kind = 2 ∧ r.view = v
  · obtain ⟨h1, rfl⟩ := h1
    rw [if_pos ⟨h1, rfl⟩, if_pos ⟨h1, rfl⟩, mergeS_eq (h.cells r.view) (okCs_one (right_cell hr).2), cellsS_look h.sc]
    rfl
  · rw [if_neg h1, if_neg (fun h2 => h1 ⟨h2.1, name_inj (right_cell hr).1 hv h2.2⟩)]
theorem intentS_apply {n : Nat} {s : PState} (h : OkN n s) {r : PRec} (hr : rightR r = true) {v : PView} (hv : rightV v = true) : intentS (applyS s r) v = if r.kind = 5 ∧ r.view = v ∧ intentS s v = none then some r.cell.change else intentS s v := by
  rw [intentS_look (okN_apply h hr).si, apply_intents]
  by_cases h1 : r.kind = 5 ∧ r.view = v ∧ intentS s v = none
  · obtain ⟨h1, rfl, h2⟩ := h1
    rw [if_pos ⟨h1, by rw [h2]; rfl, rfl⟩, if_pos ⟨h1, rfl, h2⟩]
    rfl
  · rw [if_neg h1, if_neg, intentS_look h.si]
    rintro ⟨h2, h3, h4⟩
    have h5 := name_inj (right_cell hr).1 hv h4
    exact h1 ⟨h2, h5, by rw [h5] at h3; simpa using h3⟩
end Go.Proofs.YtjbbfiagijjdoaaGreat

/- Plain laws: records there and back. No condition. -/
set_option linter.unusedSimpArgs false
set_option linter.unusedVariables false
namespace Go.Proofs.YtjbbfiagijjdoaaGreat
open Go Go.Rw Go.Proofs

theorem bitsF_zero : bitsF 0 = 0 := by decide
theorem bitsF_is_zero {b : Nat} (h : bitsF b = 0) : b = 0 := by
  unfold bitsF cleanB at h
  split at h
  · simp at h
  · exact h
theorem sameE_iff (x y : PEntry) : sameE x y = true ↔ x.key = y.key ∧ x.tag = y.tag ∧ bitsF x.value = bitsF y.value := by
  simp [sameE, and_assoc]
theorem sameR_iff (a b : PRec) : sameR a b = true ↔ a.kind = b.kind ∧ a.view = b.view ∧ a.cell = b.cell ∧ a.n = b.n ∧ sameE a.entry b.entry = true := by
  obtain ⟨k, ⟨v1, v2⟩, ⟨c, ⟨c1, c2⟩⟩, e, n⟩ := a
  obtain ⟨k', ⟨v1', v2'⟩, ⟨c', ⟨c1', c2'⟩⟩, e', n'⟩ := b
  simp [sameR, and_assoc]
theorem sameE_zero (x : PEntry) : sameE x zE = true ↔ x = zE := by
  obtain ⟨k, ⟨t1, t2⟩, v⟩ := x
  simp only [sameE_iff, zE, PEntry.mk.injEq, PTag.mk.injEq, bitsF_zero]
  constructor
  · rintro ⟨h1, h2, h3⟩; exact ⟨h1, h2, bitsF_is_zero h3⟩
  · rintro ⟨h1, h2, rfl⟩; exact ⟨h1, h2, bitsF_zero⟩
/-- its value's bits in one form -/
def cleanR (r : PRec) : PRec := { r with entry := cleanE bitsF r.entry }
inductive RightR (r : PRec) : Prop
  | value (v : PView) (e : PEntry) (h : r = ⟨1, v, zC, e, 0⟩) (hv : rightV v = true) (h1 : 0 ≤ e.key) (h2 : e.key < 4) (h3 : rightT e.tag = true) (h4 : e.tag.num ≠ 0)
  | cell (v : PView) (c : PCell) (h : r = ⟨2, v, c, zE, 0⟩) (hv : rightV v = true) (h1 : 0 ≤ c.node) (h2 : c.node < 6) (h3 : rightV c.change = true) (h4 : 0 < sizeV c.change)
  | mark (v : PView) (h : r = ⟨3, v, zC, zE, 0⟩) (hv : rightV v = true)
  | num (k n : Int) (h : r = ⟨k, zV, zC, zE, n⟩) (hk : k = 4 ∨ k = 6) (h1 : 1 ≤ n) (h2 : n ≤ 1000000)
  | intent (v u : PView) (h : r = ⟨5, v, ⟨0, u⟩, zE, 0⟩) (hv : rightV v = true) (hu : rightV u = true) (h4 : 0 < sizeV u)
theorem rightR_of {r : PRec} (h : rightR r = true) : RightR r := by
  obtain ⟨k, v, ⟨cn, cc⟩, e, n⟩ := r
  simp only [rightR, Bool.and_eq_true, decide_eq_true_eq, sameR_iff] at h
  obtain ⟨⟨⟨⟨⟨hk, hs⟩, hv⟩, hc⟩, hn⟩, hx⟩ := h
  by_cases k1 : k = 1
  · subst k1
    simp only [bareR, if_true, true_and] at hs hx
    obtain ⟨hs1, hs2, _⟩ := hs
    have := okE_of (show okE (-1) e = true by simpa [checkE] using hx)
    exact .value v e (by rw [hs1, hs2]) hv (by omega) this.2.1 this.2.2.1 this.2.2.2
  by_cases k2 : k = 2
  · subst k2
    simp [bareR, sameE_zero] at hs hx
    obtain ⟨rfl, rfl⟩ := hs
    exact .cell v _ rfl hv hn.1 hn.2 hc hx
  by_cases k5 : k = 5
  · subst k5
    simp [bareR, sameE_zero] at hs hx
    obtain ⟨rfl, rfl, rfl⟩ := hs
    exact .intent v _ rfl hv hc hx
  by_cases k3 : k = 3
  · subst k3
    simp [bareR, sameE_zero] at hs hx
    obtain ⟨hs1, rfl, rfl⟩ := hs
    exact .mark v (by rw [hs1]) hv
  have k46 : k = 4 ∨ k = 6 := by omega
  have hb : bareR ⟨k, v, ⟨cn, cc⟩, e, n⟩ = ⟨k, zV, zC, zE, n⟩ := by unfold bareR; simp [k1, k2, k3, k5, k46]
  rw [hb] at hs
  simp [sameE_zero] at hs
  obtain ⟨rfl, hs1, rfl⟩ := hs
  simp [k1, k2, k5, k46] at hx
  exact .num k n (by rw [hs1]) k46 hx.1 hx.2
theorem rightV_zero : rightV zV = true := by decide
end Go.Proofs.YtjbbfiagijjdoaaGreat

/- Plain: books and cells grow; states whose books and cells can be. No condition. -/
set_option linter.unusedSimpArgs false
set_option linter.unusedVariables false
set_option maxRecDepth 10000
namespace Go.Proofs.YtjbbfiagijjdoaaGreat
open Go Go.Rw Go.Proofs

/-! ### tags -/
/-! ### books -/
def keyE (x : PEntry) : Int := x.key
/-- a book that can be -/
def okB (b : List PEntry) : Prop := sortK keyE b ∧ ∀ x ∈ b, 0 ≤ x.key ∧ x.key < 4 ∧ rightT x.tag = true ∧ 0 < x.tag.num
theorem checkE_iff : ∀ (b : List PEntry) (last : Int), checkE last b = true ↔ sortK keyE b ∧ ∀ x ∈ b, last < x.key ∧ x.key < 4 ∧ rightT x.tag = true ∧ ¬ x.tag.num = 0
  | [], last => by simp [checkE, sortK]
  | y :: b, last => by
    rw [checkE, Bool.and_eq_true, checkE_iff b y.key]
    unfold sortK
    rw [List.pairwise_cons]
    constructor
    · rintro ⟨h1, h2, h3⟩
      have h4 := okE_of h1
      refine ⟨⟨fun x hx => (h3 x hx).1, h2⟩, fun x hx => ?_⟩
      rcases List.mem_cons.1 hx with rfl | hx
      · exact h4
      · have := h3 x hx; exact ⟨by have := h4.1; omega, this.2⟩
    · rintro ⟨⟨h1, h2⟩, h3⟩
      have h4 := h3 y (by simp)
      exact ⟨okE_5 _ _ (by omega) (by omega) h4.2.2.1 h4.2.2.2, h2, fun x hx => ⟨h1 x hx, (h3 x (by simp [hx])).2⟩⟩
theorem rightT_num {t : PTag} (h : rightT t = true) : 0 ≤ t.num := by simp [rightT] at h; exact h.1.1
theorem okB_iff (b : List PEntry) : checkE (-1) b = true ↔ okB b := by
  rw [checkE_iff]
  unfold okB
  refine and_congr Iff.rfl ⟨fun h x hx => ?_, fun h x hx => ?_⟩
  · obtain ⟨h1, h2, h3, h4⟩ := h x hx
    have := rightT_num h3
    exact ⟨by omega, h2, h3, by omega⟩
  · obtain ⟨h1, h2, h3, h4⟩ := h x hx
    exact ⟨by omega, h2, h3, by omega⟩
theorem okB_nil : okB [] := ⟨List.Pairwise.nil, fun x hx => by simp at hx⟩
theorem findE_look (b : List PEntry) (k : Int) : findE b k = (lookK keyE b k).getD ⟨k, ⟨0, 0⟩, 0⟩ := rfl
theorem findE_key (b : List PEntry) (k : Int) : (findE b k).key = k := by
  rw [findE_look]
  cases h : lookK keyE b k with
  | none => rfl
  | some x => exact (look_some h).2
theorem newer_key {x y : PEntry} {k : Int} (hx : x.key = k) (hy : y.key = k) : (newerE x y).key = k := by unfold newerE; split <;> assumption
theorem mergeE1_mem {a b : List PEntry} {k : Int} {x : PEntry} : x ∈ mergeE1 a b k ↔ x.key = k ∧ x = newerE (findE a k) (findE b k) ∧ 0 < x.tag.num := by
  unfold mergeE1
  have hk := newer_key (findE_key a k) (findE_key b k)
  generalize newerE (findE a k) (findE b k) = e at *
  by_cases h : 0 < e.tag.num
  · rw [if_pos h, List.mem_singleton]
    constructor
    · rintro rfl; exact ⟨hk, rfl, h⟩
    · exact fun h => h.2.1
  · rw [if_neg h]
    constructor
    · intro h1; simp at h1
    · rintro ⟨_, rfl, h2⟩; exact absurd h2 h
theorem mergeK_mem {a b : List PEntry} {m : Nat} {x : PEntry} : x ∈ mergeK a b m ↔ (0 ≤ x.key ∧ x.key < m) ∧ x = newerE (findE a x.key) (findE b x.key) ∧ 0 < x.tag.num := by
  induction m with
  | zero => simp [mergeK]; omega
  | succ k ih =>
    rw [mergeK, List.mem_append, ih, mergeE1_mem]
    constructor
    · rintro (⟨⟨h1, h2⟩, h3⟩ | ⟨h1, h2, h3⟩)
      · exact ⟨⟨h1, by omega⟩, h3⟩
      · exact ⟨⟨by omega, by omega⟩, by rw [h1]; exact h2, h3⟩
    · rintro ⟨⟨h1, h2⟩, h3, h4⟩
      by_cases h : x.key < k
      · exact .inl ⟨⟨h1, h⟩, h3, h4⟩
      · have e : x.key = (k : Int) := by omega
        exact .inr ⟨e, by rw [← e]; exact h3, h4⟩
theorem mergeK_sorted (a b : List PEntry) (m : Nat) : sortK keyE (mergeK a b m) := by
  unfold sortK
  induction m with
  | zero => simp [mergeK]
  | succ k ih =>
    rw [mergeK, List.pairwise_append]
    refine ⟨ih, ?_, fun x hx y hy => ?_⟩
    · have := mergeE1_le a b k
      match h : mergeE1 a b k with
      | [] => simp
      | [_] => simp
      | _ :: _ :: _ => rw [h] at this; simp at this
    · have h1 := (mergeK_mem.1 hx).1
      have h2 := (mergeE1_mem.1 hy).1
      unfold keyE
      omega
theorem okB_merge {a b : List PEntry} (ha : ∀ x ∈ a, rightT x.tag = true) (hb : ∀ x ∈ b, rightT x.tag = true) : okB (mergeE a b) := by
  refine ⟨mergeK_sorted a b 4, fun x hx => ?_⟩
  obtain ⟨⟨h1, h2⟩, h3, h4⟩ := mergeK_mem.1 hx
  refine ⟨h1, h2, ?_, h4⟩
  rw [h3]
  exact newer_right (findE_right ha) (findE_right hb)
theorem okB.right {b : List PEntry} (h : okB b) : ∀ x ∈ b, rightT x.tag = true := fun x hx => (h.2 x hx).2.2.1
/-! ### cells -/
/-- cells whose changes can be -/
def okCh (l : List PCell) : Prop := okCs l ∧ ∀ c ∈ l, rightV c.change = true ∧ ¬ sizeV c.change = 0
theorem checkC_iff : ∀ (b : List PCell) (last : Int), checkC last b = true ↔ b.Pairwise (fun x y => x.node < y.node) ∧ ∀ x ∈ b, last < x.node ∧ x.node < 6 ∧ rightV x.change = true ∧ ¬ sizeV x.change = 0
  | [], last => by simp [checkC]
  | y :: b, last => by
    rw [checkC, Bool.and_eq_true, checkC_iff b y.node, List.pairwise_cons]
    constructor
    · rintro ⟨h1, h2, h3⟩
      have h4 : last < y.node ∧ y.node < 6 ∧ rightV y.change = true ∧ ¬ sizeV y.change = 0 := by simpa [okC, and_assoc] using h1
      refine ⟨⟨fun x hx => (h3 x hx).1, h2⟩, fun x hx => ?_⟩
      rcases List.mem_cons.1 hx with rfl | hx
      · exact h4
      · have := h3 x hx; exact ⟨by have := h4.1; omega, this.2⟩
    · rintro ⟨⟨h1, h2⟩, h3⟩
      have h4 := h3 y (by simp)
      exact ⟨by simpa [okC, and_assoc] using h4, h2, fun x hx => ⟨h1 x hx, (h3 x (by simp [hx])).2⟩⟩
theorem okCh_iff (b : List PCell) : checkC (-1) b = true ↔ okCh b := by
  rw [checkC_iff]
  unfold okCh okCs
  constructor
  · rintro ⟨h1, h2⟩
    exact ⟨⟨h1, fun x hx => by have := h2 x hx; omega⟩, fun x hx => (h2 x hx).2.2⟩
  · rintro ⟨⟨h1, h2⟩, h3⟩
    exact ⟨h1, fun x hx => by have := h2 x hx; exact ⟨by omega, by omega, h3 x hx⟩⟩
theorem okCh_merge {a b : List PCell} (ha : okCh a) (hb : okCh b) : okCh (mergeC a b) := by
  refine ⟨okCs_merge a b, fun c hc => ?_⟩
  obtain ⟨_, h | ⟨_, h⟩⟩ := mergeCK_mem.1 hc
  · exact ha.2 _ (ofC_some h)
  · exact hb.2 _ (ofC_some h)
/-! ### states -/
/-- a state whose books and cells can be -/
structure OkT (n : Nat) (s : PState) : Prop extends OkN n s where
  bk : ∀ x ∈ s.books, okB x.book
  ck : ∀ x ∈ s.cells, okCh x.cells
theorem OkT.bookOk {n : Nat} {s : PState} (h : OkT n s) (v : PView) : okB (bookS s v) := by
  rw [bookS_look h.sb]
  cases e : lookK keyVB s.books (nameV v) with
  | none => exact okB_nil
  | some x => exact h.bk x (look_some e).1
theorem OkT.cellsOk {n : Nat} {s : PState} (h : OkT n s) (v : PView) : okCh (cellsS s v) := by
  rw [cellsS_look h.sc]
  cases e : lookK keyVC s.cells (nameV v) with
  | none => exact ⟨okCs_nil, fun x hx => by simp at hx⟩
  | some x => exact h.ck x (look_some e).1
theorem RightR.entry {r : PRec} (h : RightR r) (hk : r.kind = 1) : okB [r.entry] := by
  cases h with
  | value v e h hv h1 h2 h3 h4 =>
    subst h
    refine ⟨by simp [sortK], fun x hx => ?_⟩
    simp at hx; subst hx
    have := rightT_num h3
    exact ⟨h1, h2, h3, by omega⟩
  | cell v c h => subst h; simp at hk
  | mark v h => subst h; simp at hk
  | num k n h hk' => subst h; simp only at hk; omega
  | intent v u h => subst h; simp at hk
theorem RightR.ccell {r : PRec} (h : RightR r) (hk : r.kind = 2) : okCh [r.cell] := by
  cases h with
  | value v e h => subst h; simp at hk
  | cell v c h hv h1 h2 h3 h4 =>
    subst h
    refine ⟨okCs_one ⟨h1, h2⟩, fun x hx => ?_⟩
    simp at hx; subst hx
    exact ⟨h3, by omega⟩
  | mark v h => subst h; simp at hk
  | num k n h hk' => subst h; simp only at hk; omega
  | intent v u h => subst h; simp at hk
theorem okT_apply {n : Nat} {s : PState} (h : OkT n s) {r : PRec} (hr : rightR r = true) : OkT (n + 1) (applyS s r) := by
  have hn := okN_apply h.toOkN hr
  refine ⟨hn, fun x hx => ?_, fun x hx => ?_⟩
  · rw [look_mem hn.sb, apply_books] at hx
    split at hx
    · rename_i hk
      obtain rfl := Option.some.inj hx
      exact okB_merge (h.bookOk r.view).right ((rightR_of hr).entry hk.1).right
    · exact h.bk x (look_some hx).1
  · rw [look_mem hn.sc, apply_cells] at hx
    split at hx
    · rename_i hk
      obtain rfl := Option.some.inj hx
      show okCh (mergeS _ _)
      rw [mergeS_eq (h.cells r.view) (okCs_one (right_cell hr).2)]
      exact okCh_merge (h.cellsOk r.view) ((rightR_of hr).ccell hk.1)
    · exact h.ck x (look_some hx).1
theorem okT_new {v : PView} (h : rightV v = true) : OkT 0 (newS v) := ⟨okN_new h, fun x hx => by simp [newS] at hx, fun x hx => by simp [newS] at hx⟩
theorem okT_fold {v : PView} (hv : rightV v = true) {l : List PRec} (hl : ∀ r ∈ l, rightR r = true) (k : Nat) (hk : k ≤ l.length) : OkT k (foldS v (l.take k)) := by
  induction k with
  | zero => simpa [foldS] using okT_new hv
  | succ k ih =>
    have hx : l[k]? = some l[k] := List.getElem?_eq_getElem (by omega)
    rw [foldS_step hx]
    exact okT_apply (ih (by omega)) (hl _ (List.mem_of_getElem? hx))
theorem OkT.mono {n m : Nat} {s : PState} (h : OkT n s) (hn : n ≤ m) : OkT m s := ⟨h.toOkN.mono hn, h.bk, h.ck⟩
end Go.Proofs.YtjbbfiagijjdoaaGreat

/- Plain: what a node answers, and what is there behind it. No condition. -/
set_option linter.unusedSimpArgs false
set_option linter.unusedVariables false
set_option maxRecDepth 10000
namespace Go.Proofs.YtjbbfiagijjdoaaGreat
open Go Go.Rw Go.Proofs

/-- the answer's head -/
def ansM (me : Int) (q : PMsg) : PMsg := ⟨7, me, q.frm, q.inc, q.seq, q.view, [], []⟩
def servable (me : Int) (q : PMsg) : Bool := decide (q.to = me) && decide (0 ≤ q.kind ∧ q.kind ≤ 4)
def recC (v : PView) (c : PCell) : PRec := ⟨2, v, c, zE, 0⟩
def recE (v : PView) (x : PEntry) : PRec := ⟨1, v, zC, x, 0⟩
def recV (v : PView) : PRec := ⟨3, v, zC, zE, 0⟩
/-- what is to be written -/
def wroteS (s : PState) (q : PMsg) : List PRec :=
  if q.kind = 1 then (newsC (cellsS s q.view) q.cells).map (recC q.view)
  else if q.kind = 3 then (newsE (bookS s q.view) q.book).map (recE q.view)
  else if q.kind = 4 then (if ¬ s.held = q.view ∧ withinV s.held q.view = true then [recV q.view] else [])
  else []
/-- what is answered -/
def tellS (me : Int) (s : PState) (q : PMsg) : PMsg :=
  if q.kind = 0 then { ansM me q with kind := 5, cells := cellsS s q.view }
  else if q.kind = 2 then { ansM me q with kind := 6, book := bookS s q.view }
  else ansM me q
def recsS (me : Int) (s : PState) (q : PMsg) : List PRec := if servable me q = true then wroteS s q else []
def answerS (me : Int) (s : PState) (q : PMsg) : PMsg := if servable me q = true then tellS me s q else zM

theorem samesE (l : List PEntry) : sameEs l l = true := by
  induction l with
  | nil => rfl
  | cons x l ih => simp [sameEs, sameE, ih]
section
variable {q : PMsg}
theorem RightQ.cells (h : rightM q = true) : okCh q.cells := by
  simp only [rightM, Bool.and_eq_true, betweenB, decide_eq_true_eq] at h
  exact (okCh_iff _).1 h.1.2
theorem RightQ.book (h : rightM q = true) : okB q.book := by
  simp only [rightM, Bool.and_eq_true, betweenB, decide_eq_true_eq] at h
  exact (okB_iff _).1 h.2
end
/-! ### behind what was written -/
/-- the state behind what was written -/
def behindS (s : PState) (q : PMsg) : PState := (wroteS s q).foldl applyS s
section
variable {n : Nat} {s : PState} {q : PMsg}
end
end Go.Proofs.YtjbbfiagijjdoaaGreat

/- Contracts: the document's books, cells and intents out of all records. No condition. -/
set_option linter.unusedSimpArgs false
set_option linter.unusedVariables false
set_option maxRecDepth 10000
namespace Go.Proofs.YtjbbfiagijjdoaaGreat
open Go Go.Rw Go.Proofs
-- a goal is never to be run by the elaborator
attribute [local irreducible] awp aops aop aopsE aeff

def bookL (l : List PRec) (v : PView) : List PEntry := l.foldl (fun b r => if r.kind = 1 ∧ r.view = v then mergeD b [r.entry] else b) []
def cellsL (l : List PRec) (v : PView) : List PCell := l.foldl (fun b r => if r.kind = 2 ∧ r.view = v then mergeC b [r.cell] else b) []
def intentL (l : List PRec) (v : PView) : Option PView := (l.find? fun r => decide (r.kind = 5 ∧ r.view = v)).map (·.cell.change)
theorem view_eq {a b : PView} : a = b ↔ a.add = b.add ∧ a.del = b.del := by cases a; cases b; simp
def BlI (l : List PRec) (v : PView) (b1 : Nat) (t : Nat → AV) (h : Nat → Option (List AV)) : Prop := ∃ (k : Nat) (tag : Tag), t 3 = .ptr b1 0 ∧ t 5 = .sl tag (eEs (bookL (l.take k) v)) ∧ t 9 = .sl .no (eRs l) ∧ t 10 = eI l.length ∧ t 11 = eI k ∧ k ≤ l.length ∧ h b1 = some (eV v)
def BlM (l : List PRec) (v : PView) (t : Nat → AV) (h : Nat → Option (List AV)) : Prop := ∃ tag : Tag, t 5 = .sl tag (eEs (bookL l v))
def ClI (l : List PRec) (v : PView) (b1 : Nat) (t : Nat → AV) (h : Nat → Option (List AV)) : Prop := ∃ (k : Nat) (tag : Tag), t 3 = .ptr b1 0 ∧ t 5 = .sl tag (eCs (cellsL (l.take k) v)) ∧ t 9 = .sl .no (eRs l) ∧ t 10 = eI l.length ∧ t 11 = eI k ∧ k ≤ l.length ∧ h b1 = some (eV v)
def ClM (l : List PRec) (v : PView) (t : Nat → AV) (h : Nat → Option (List AV)) : Prop := ∃ tag : Tag, t 5 = .sl tag (eCs (cellsL l v))
end Go.Proofs.YtjbbfiagijjdoaaGreat

/- Contracts: all views of records, each once, by their names. No condition. -/
set_option linter.unusedSimpArgs false
set_option linter.unusedVariables false
set_option maxRecDepth 10000
namespace Go.Proofs.YtjbbfiagijjdoaaGreat
open Go Go.Rw Go.Proofs
-- a goal is never to be run by the elaborator
attribute [local irreducible] awp aops aop aopsE aeff

def relR (r : PRec) : Bool := decide (r.kind = 1 ∨ r.kind = 2 ∨ r.kind = 5)
def presL (l : List PRec) (n : Nat) : Bool := l.any fun r => relR r && decide (nameV r.view = (n : Int))
def viewsTo (l : List PRec) (m : Nat) : List PView := ((List.range m).filter (presL l)).map fun (n : Nat) => viewN (n : Int)
def bestF (m : Int) (b : Int) (r : PRec) : Int := if relR r = true ∧ m < nameV r.view ∧ nameV r.view < b then nameV r.view else b
def bestL (l : List PRec) (m b : Int) : Int := l.foldl (bestF m) b
def lastN (x : AV) : Nat := match x with | .v (.int _ n) => (n + 1).toNat | _ => 0
@[simp] theorem lastN_int (k : IntKind) (n : Int) : lastN (.v (.int k n)) = (n + 1).toNat := rfl
def VwI (l : List PRec) (t : Nat → AV) (h : Nat → Option (List AV)) : Prop := ∃ (m : Nat) (tag : Tag), t 0 = .sl .no (eRs l) ∧ t 3 = .sl tag (eVs (viewsTo l m)) ∧ appOK tag 24 2 ∧ t 4 = eI ((m : Int) - 1) ∧ m ≤ 4096
def VbI (l : List PRec) (m : Nat) (tag : Tag) (t : Nat → AV) (h : Nat → Option (List AV)) : Prop := ∃ k : Nat, t 0 = .sl .no (eRs l) ∧ t 3 = .sl tag (eVs (viewsTo l m)) ∧ t 4 = eI ((m : Int) - 1) ∧ t 5 = eI (bestL (l.take k) ((m : Int) - 1) 5000) ∧ t 12 = .sl .no (eRs l) ∧ t 13 = eI l.length ∧ t 14 = eI k ∧ k ≤ l.length
def VbM (l : List PRec) (m : Nat) (tag : Tag) (t : Nat → AV) (h : Nat → Option (List AV)) : Prop := t 0 = .sl .no (eRs l) ∧ t 3 = .sl tag (eVs (viewsTo l m)) ∧ t 4 = eI ((m : Int) - 1) ∧ t 5 = eI (bestL l ((m : Int) - 1) 5000)
end Go.Proofs.YtjbbfiagijjdoaaGreat

/- Plain: the document's state behind records is the same. No condition. -/
set_option linter.unusedSimpArgs false
set_option linter.unusedVariables false
set_option maxRecDepth 10000
namespace Go.Proofs.YtjbbfiagijjdoaaGreat
open Go Go.Rw Go.Proofs

def heldL (v : PView) (l : List PRec) : PView := l.foldl (fun h r => if r.kind = 3 ∧ withinV h r.view = true then r.view else h) v
def lastL (l : List PRec) : Int := l.foldl (fun n r => if r.kind = 4 ∧ n < r.n then r.n else n) 0
def incL (l : List PRec) : Int := l.foldl (fun n r => if r.kind = 6 ∧ n < r.n then r.n else n) 0
def bookV (l : List PRec) (v : PView) : Option PVB := if bookL l v = [] then none else some ⟨v, bookL l v⟩
def cellsV (l : List PRec) (v : PView) : Option PVC := if cellsL l v = [] then none else some ⟨v, cellsL l v⟩
def intentV (l : List PRec) (v : PView) : Option PVI := (intentL l v).map fun c => ⟨v, c⟩
def stateL (v : PView) (l : List PRec) : PState := ⟨(viewsTo l 4096).filterMap (bookV l), (viewsTo l 4096).filterMap (cellsV l), (viewsTo l 4096).filterMap (intentV l), heldL v l, incL l, lastL l⟩
/-- what the state tells is what all records tell -/
structure TellsL (v : PView) (l : List PRec) (s : PState) : Prop where
  book : ∀ u, rightV u = true → bookS s u = bookL l u
  cells : ∀ u, rightV u = true → cellsS s u = cellsL l u
  intent : ∀ u, rightV u = true → intentS s u = intentL l u
  held : s.held = heldL v l
  last : s.last = lastL l
  inc : s.inc = incL l
  bne : ∀ x ∈ s.books, ¬ x.book = []
  cne : ∀ x ∈ s.cells, ¬ x.cells = []
section
variable {α : Type} {key : α → Int}
end
end Go.Proofs.YtjbbfiagijjdoaaGreat

/- Contracts: the document's intents and its state behind records. No condition. -/
set_option linter.unusedSimpArgs false
set_option linter.unusedVariables false
set_option maxRecDepth 10000
namespace Go.Proofs.YtjbbfiagijjdoaaGreat
open Go Go.Rw Go.Proofs
-- a goal is never to be run by the elaborator
attribute [local irreducible] awp aops aop aopsE aeff

def intentA' (o : Option PView) : AV := .tup [.agg (eV (o.getD ⟨0, 0⟩)), .v (.bool o.isSome)]
def InI (l : List PRec) (v : PView) (b1 b2 : Nat) (t : Nat → AV) (h : Nat → Option (List AV)) : Prop := ∃ k : Nat, t 3 = .ptr b1 0 ∧ t 4 = .ptr b2 0 ∧ t 8 = .sl .no (eRs l) ∧ t 9 = eI l.length ∧ t 10 = eI k ∧ k ≤ l.length ∧ h b1 = some (eV v) ∧ (∃ z, h b2 = some z ∧ z.length = 2) ∧ intentL (l.take k) v = none
def InM (l : List PRec) (v : PView) (b2 : Nat) (t : Nat → AV) (h : Nat → Option (List AV)) : Prop := t 4 = .ptr b2 0 ∧ (∃ z, h b2 = some z ∧ z.length = 2) ∧ intentL l v = none
def OfB (h i a : Int × Int) (b5 : Nat) : Prop := True
end Go.Proofs.YtjbbfiagijjdoaaGreat

/- Contract: the document's state behind records. No condition. -/
set_option linter.unusedSimpArgs false
set_option linter.unusedVariables false
set_option maxRecDepth 10000
namespace Go.Proofs.YtjbbfiagijjdoaaGreat
open Go Go.Rw Go.Proofs
-- a goal is never to be run by the elaborator
attribute [local irreducible] awp aops aop aopsE aeff

def eSt3 (t1 t2 t3 : Tag) (s : PState) : List AV := [.sl t1 (rowsVB s.books), .sl t2 (rowsVC s.cells), .sl t3 (rowsVI s.intents), eI s.held.add, eI s.held.del, eI s.inc, eI s.last]
def headL (v : PView) (l : List PRec) : PState := ⟨[], [], [], heldL v l, incL l, lastL l⟩
def OfI1 (v : PView) (l : List PRec) (b2 b3 : Nat) (t : Nat → AV) (h : Nat → Option (List AV)) : Prop := ∃ k : Nat, t 1 = .sl .no (eRs l) ∧ t 4 = .ptr b2 0 ∧ t 5 = .ptr b3 0 ∧ t 16 = .sl .no (eRs l) ∧ t 17 = eI l.length ∧ t 18 = eI k ∧ k ≤ l.length ∧ (∃ z, h b2 = some z ∧ z.length = 7) ∧ h b3 = some (eSt3 .nil .nil .nil (headL v (l.take k)))
def OfM1 (v : PView) (l : List PRec) (b2 b3 : Nat) (t : Nat → AV) (h : Nat → Option (List AV)) : Prop := t 1 = .sl .no (eRs l) ∧ t 4 = .ptr b2 0 ∧ t 5 = .ptr b3 0 ∧ (∃ z, h b2 = some z ∧ z.length = 7) ∧ h b3 = some (eSt3 .nil .nil .nil (headL v l))
def partL (v : PView) (l : List PRec) (vs : List PView) : PState := ⟨vs.filterMap (bookV l), vs.filterMap (cellsV l), vs.filterMap (intentV l), heldL v l, incL l, lastL l⟩
def OfI2 (v : PView) (l : List PRec) (vs : List PView) (b2 b3 : Nat) (t : Nat → AV) (h : Nat → Option (List AV)) : Prop := ∃ (k : Nat) (t1 t2 t3 tv : Tag), t 1 = .sl .no (eRs l) ∧ t 4 = .ptr b2 0 ∧ t 5 = .ptr b3 0 ∧ t 63 = .sl tv (eVs vs) ∧ t 64 = eI vs.length ∧ t 65 = eI k ∧ k ≤ vs.length ∧ (∃ z, h b2 = some z ∧ z.length = 7) ∧ h b3 = some (eSt3 t1 t2 t3 (partL v l (vs.take k))) ∧ appOK t1 89 3 ∧ appOK t2 91 3 ∧ appOK t3 93 4
def OfM2 (v : PView) (l : List PRec) (vs : List PView) (b2 b3 : Nat) (t : Nat → AV) (h : Nat → Option (List AV)) : Prop := ∃ (t1 t2 t3 : Tag), t 4 = .ptr b2 0 ∧ t 5 = .ptr b3 0 ∧ (∃ z, h b2 = some z ∧ z.length = 7) ∧ h b3 = some (eSt3 t1 t2 t3 (partL v l vs))
end Go.Proofs.YtjbbfiagijjdoaaGreat

/- Contracts: the state behind records. No condition. -/
set_option linter.unusedSimpArgs false
set_option linter.unusedVariables false
set_option maxRecDepth 10000
namespace Go.Proofs.YtjbbfiagijjdoaaGreat
open Go Go.Rw Go.Proofs
-- a goal is never to be run by the elaborator
attribute [local irreducible] awp aops aop aopsE aeff

def FoI (v : PView) (l : List PRec) (b2 b3 : Nat) (t : Nat → AV) (h : Nat → Option (List AV)) : Prop := ∃ k : Nat, t 4 = .ptr b2 0 ∧ t 5 = .ptr b3 0 ∧ t 10 = .sl .no (eRs l) ∧ t 11 = eI l.length ∧ t 12 = eI k ∧ k ≤ l.length ∧ (∃ z, h b2 = some z ∧ z.length = 7) ∧ h b3 = some (eSt (foldS v (l.take k)))
def FoM (v : PView) (l : List PRec) (b2 b3 : Nat) (t : Nat → AV) (h : Nat → Option (List AV)) : Prop := t 4 = .ptr b2 0 ∧ t 5 = .ptr b3 0 ∧ (∃ z, h b2 = some z ∧ z.length = 7) ∧ h b3 = some (eSt (foldS v l))
theorem fold_spec (v : PView) (l : List PRec) (hv : rightV v = true) (hl : ∀ r ∈ l, rightR r = true) (hn : l.length ≤ 100000) : ASpec Tryz.prog 20 [.agg (eV v), .sl .no (eRs l)] (· = .agg (eSt (foldS v l))) := by
  refine ASpec.of_awp Tryz.func20 (by kernel_rfl) rfl (by rw [Tryz.results20]) Tryz.ntmps20 ?_
  simp -implicitDefEqProofs [eV]
  refine allocK.intro (fun b1 hb1 => ?_)
  simp -implicitDefEqProofs
  refine allocK.intro (fun b2 hb2 => ?_)
  have n12 : ¬ b1 = b2 := by rintro rfl; simp at hb2
  have n21 : ¬ b2 = b1 := fun h => n12 h.symm
  simp -implicitDefEqProofs [n12, n21]
  refine CallK.with (new_spec v) (by simp [eV]) ?_
  simp -implicitDefEqProofs [eSt]
  refine allocK.intro (fun b3 hb3 => ?_)
  have n13 : ¬ b1 = b3 := by rintro rfl; simp [n12] at hb3
  have n31 : ¬ b3 = b1 := fun h => n13 h.symm
  have n23 : ¬ b2 = b3 := by rintro rfl; simp at hb3
  have n32 : ¬ b3 = b2 := fun h => n23 h.symm
  simp -implicitDefEqProofs [n12, n21, n13, n31, n23, n32]
  intro _
  refine loopK.post (FoI v l b2 b3) (fun t => l.length - natOf (t 12)) (FoM v l b2 b3) ?_ ?_ ?_
  · exact ⟨0, by simp, by simp, by simp, by simp, by simp, by omega, ⟨[.sl .nil [], .sl .nil [], .sl .nil [], eI 0, eI 0, eI 0, eI 0], by simp [n23, n21], rfl⟩, by simp [foldS, newS, eSt]⟩
  · rintro t hh ⟨k, g4, g5, g10, g11, g12, hk, ⟨z, kz, hz⟩, k3⟩
    by_cases hlt : k < l.length
    · have hlt' : (k : Int) < (l.length : Int) := by omega
      obtain ⟨r, hx⟩ : ∃ r, l[k]? = some r := ⟨l[k], by simp [hlt]⟩
      have hw : IntKind.i64.wrap ((k : Int) + 1) = ((k + 1 : Nat) : Int) := by rw [w64 (by omega) (by omega)]; omega
      have hok := okN_fold hv hl k hk
      have hr := hl r (List.mem_of_getElem? hx)
      have hst := foldS_step (v := v) hx
      generalize foldS v (l.take k) = s at *
      have hap := apply_spec s r (hok.ok (by omega)) (right_cell hr).1 (hok.news hr)
      generalize applyS s r = s2 at *
      simp -implicitDefEqProofs [g10, g11, g12, hlt', hx, eRc]
      refine allocK.intro (fun b4 hb4 => ?_)
      have n24 : ¬ b2 = b4 := by rintro rfl; rw [kz] at hb4; simp at hb4
      have n42 : ¬ b4 = b2 := fun h => n24 h.symm
      have n34 : ¬ b3 = b4 := by rintro rfl; rw [k3] at hb4; simp at hb4
      have n43 : ¬ b4 = b3 := fun h => n34 h.symm
      rw [eSt] at k3
      simp -implicitDefEqProofs [g5, k3, n23, n32, n24, n42, n34, n43]
      refine CallK.with hap (by simp [eSt, eRc]) ?_
      simp -implicitDefEqProofs [g5, k3, n23, n32, n24, n42, n34, n43, g12, hw, eSt]
      exact ⟨⟨k + 1, by simp [g4], by simp [g5], by simp [g10], by simp [g11], by simp, by omega, ⟨z, by simp [n23, n24, kz], hz⟩, by rw [hst]; simp [eSt]⟩, by omega⟩
    · have hlt' : ¬ (k : Int) < (l.length : Int) := by omega
      rw [List.take_of_length_le (by omega)] at k3
      simp -implicitDefEqProofs [g11, g12, hlt']
      exact ⟨by simp [g4], by simp [g5], ⟨z, kz, hz⟩, k3⟩
  rintro t hh ⟨g4, g5, ⟨z, kz, hz⟩, k3⟩
  generalize foldS v l = s at *
  rw [eSt] at k3
  simp -implicitDefEqProofs [g4, g5, kz, k3, hz, n23, n32, eSt]
end Go.Proofs.YtjbbfiagijjdoaaGreat

/- Contracts: lists of what is told of views (api.ViewBook) that are the same. Printed by sort/gen.py. No condition. -/
set_option linter.unusedSimpArgs false
set_option linter.unusedVariables false
set_option maxRecDepth 10000
namespace Go.Proofs.YtjbbfiagijjdoaaGreat
open Go Go.Rw Go.Proofs
-- a goal is never to be run by the elaborator
attribute [local irreducible] awp aops aop aopsE aeff

def sameVB (x y : PVB) : Bool := decide (x.view = y.view) && sameEs x.book y.book
def sameVBs : List PVB → List PVB → Bool
  | [], [] => true
  | x :: l, y :: m => sameVB x y && sameVBs l m
  | _, _ => false
theorem sameVBs_len : ∀ {a b : List PVB}, a.length ≠ b.length → sameVBs a b = false
  | [], [], h => absurd rfl h
  | [], _ :: _, _ => rfl
  | _ :: _, [], _ => rfl
  | x :: a, y :: b, h => by
    have := sameVBs_len (a := a) (b := b) (by simp at h; exact h)
    simp [sameVBs, this]
theorem sameVB_spec (x y : PVB) : ASpec Tryz.prog 122 [.agg (eVB x), .agg (eVB y)] (· = .v (.bool (sameVB x y))) := by
  refine ASpec.of_awp Tryz.func122 (by kernel_rfl) rfl (by rw [Tryz.results122]) Tryz.ntmps122 ?_
  simp -implicitDefEqProofs [eVB]
  refine allocK.intro (fun b hb => ?_)
  simp -implicitDefEqProofs
  refine allocK.intro (fun b2 hb2 => ?_)
  have hbb : ¬ b = b2 := by rintro rfl; simp at hb2
  have hbb' : ¬ b2 = b := fun h => hbb h.symm
  by_cases h1 : x.view.add = y.view.add
  · by_cases h2 : x.view.del = y.view.del
    · have hv : x.view = y.view := by
        obtain ⟨⟨p, q⟩, _⟩ := x
        obtain ⟨⟨p2, q2⟩, _⟩ := y
        simp at h1 h2
        simp [h1, h2]
      simp -implicitDefEqProofs [hbb, hbb', h1, h2]
      refine CallK.with (book_same x.book y.book) rfl ?_
      simp -implicitDefEqProofs [sameVB, hv]
    · have hv : ¬ x.view = y.view := fun h => h2 (by rw [h])
      have h2b : (x.view.del == y.view.del) = false := by simpa using h2
      simp -implicitDefEqProofs [hbb, hbb', h1, h2, h2b, sameVB, hv]
  · have hv : ¬ x.view = y.view := fun h => h1 (by rw [h])
    have h1b : (x.view.add == y.view.add) = false := by simpa using h1
    simp -implicitDefEqProofs [hbb, hbb', h1, h1b, sameVB, hv]
def EqVBI (a b : List PVB) (t : Nat → AV) (_ : Nat → Option (List AV)) : Prop := ∃ k : Nat, t 15 = .sl .no (rowsVB a) ∧ t 1 = .sl .no (rowsVB b) ∧ t 2 = .fn 122 [] ∧ t 16 = .v (.int .i64 a.length) ∧ t 17 = .v (.int .i64 k) ∧ k ≤ a.length ∧ sameVBs (a.drop k) (b.drop k) = sameVBs a b
theorem equalfVB_spec (a b : List PVB) : ASpec Tryz.prog 121 [.sl .no (rowsVB a), .sl .no (rowsVB b), .fn 122 []] (· = .v (.bool (sameVBs a b))) := by
  refine ASpec.of_awp Tryz.func121 (by kernel_rfl) rfl (by rw [Tryz.results121]) Tryz.ntmps121 ?_
  simp -implicitDefEqProofs
  intro h1 h2
  refine branch_dec (fun hb => ?_) (fun hb => ?_)
  · have hl : a.length = b.length := by omega
    simp -implicitDefEqProofs
    intro _
    refine loopK.intro (EqVBI a b) (fun t => a.length - natOf (t 17)) ?_ ?_
    · exact ⟨0, by simp, by simp, by simp, by simp, by simp, by omega, by simp⟩
    rintro t hh ⟨k, g15, g1, g2, g16, g17, hk, he⟩
    simp -implicitDefEqProofs [g16, g17]
    refine branch_dec (fun hlt => ?_) (fun hlt => ?_)
    · have hlt : k < a.length := by omega
      have hlt2 : k < b.length := by omega
      obtain ⟨x, hx⟩ : ∃ x, a[k]? = some x := ⟨a[k], by simp [hlt]⟩
      obtain ⟨y, hy⟩ : ∃ y, b[k]? = some y := ⟨b[k], by simp [hlt2]⟩
      have hdx : a.drop k = x :: a.drop (k + 1) := by
        rw [List.drop_eq_getElem_cons hlt]; rw [List.getElem?_eq_getElem hlt] at hx; rw [Option.some.inj hx]
      have hdy : b.drop k = y :: b.drop (k + 1) := by
        rw [List.drop_eq_getElem_cons hlt2]; rw [List.getElem?_eq_getElem hlt2] at hy; rw [Option.some.inj hy]
      rw [hdx, hdy, sameVBs] at he
      have hj1 : IntKind.i64.wrap ((k : Int) + 1) = (k : Int) + 1 := w64 (by omega) (by omega)
      simp -implicitDefEqProofs [g15, g17, hx, eVB]
      refine allocK.intro (fun b1 hb1 => ?_)
      simp -implicitDefEqProofs [g1, hy, eVB]
      refine allocK.intro (fun b2 hb2 => ?_)
      have hbb : ¬ b1 = b2 := by rintro rfl; simp at hb2
      have hbb' : ¬ b2 = b1 := fun h => hbb h.symm
      simp -implicitDefEqProofs [g2, hbb, hbb']
      refine CallK.with (sameVB_spec x y) (by simp [eVB]) ?_
      simp -implicitDefEqProofs
      refine branch_intro (fun h3 => ?_) (fun h3 => ?_)
      · rw [h3, Bool.true_and] at he
        simp -implicitDefEqProofs [g17, hj1]
        exact ⟨⟨k + 1, by simp [g15], by simp [g1], by simp [g2], by simp [g16], by simp, by omega, he⟩, by omega⟩
      · rw [h3, Bool.false_and] at he
        simp -implicitDefEqProofs [← he]
    · have hk' : k = a.length := by omega
      subst hk'
      rw [List.drop_length, hl, List.drop_length, sameVBs] at he
      simp -implicitDefEqProofs [← he]
  · have hr : sameVBs a b = false := sameVBs_len (by omega)
    simp -implicitDefEqProofs [hr]
end Go.Proofs.YtjbbfiagijjdoaaGreat

/- Contracts: lists of what is told of views (api.ViewCells) that are the same. Printed by sort/gen.py. No condition. -/
set_option linter.unusedSimpArgs false
set_option linter.unusedVariables false
set_option maxRecDepth 10000
namespace Go.Proofs.YtjbbfiagijjdoaaGreat
open Go Go.Rw Go.Proofs
-- a goal is never to be run by the elaborator
attribute [local irreducible] awp aops aop aopsE aeff

def sameVC (x y : PVC) : Bool := decide (x.view = y.view) && decide (x.cells = y.cells)
def sameVCs : List PVC → List PVC → Bool
  | [], [] => true
  | x :: l, y :: m => sameVC x y && sameVCs l m
  | _, _ => false
theorem sameVCs_len : ∀ {a b : List PVC}, a.length ≠ b.length → sameVCs a b = false
  | [], [], h => absurd rfl h
  | [], _ :: _, _ => rfl
  | _ :: _, [], _ => rfl
  | x :: a, y :: b, h => by
    have := sameVCs_len (a := a) (b := b) (by simp at h; exact h)
    simp [sameVCs, this]
theorem sameVC_spec (x y : PVC) : ASpec Tryz.prog 124 [.agg (eVC x), .agg (eVC y)] (· = .v (.bool (sameVC x y))) := by
  refine ASpec.of_awp Tryz.func124 (by kernel_rfl) rfl (by rw [Tryz.results124]) Tryz.ntmps124 ?_
  simp -implicitDefEqProofs [eVC]
  refine allocK.intro (fun b hb => ?_)
  simp -implicitDefEqProofs
  refine allocK.intro (fun b2 hb2 => ?_)
  have hbb : ¬ b = b2 := by rintro rfl; simp at hb2
  have hbb' : ¬ b2 = b := fun h => hbb h.symm
  by_cases h1 : x.view.add = y.view.add
  · by_cases h2 : x.view.del = y.view.del
    · have hv : x.view = y.view := by
        obtain ⟨⟨p, q⟩, _⟩ := x
        obtain ⟨⟨p2, q2⟩, _⟩ := y
        simp at h1 h2
        simp [h1, h2]
      simp -implicitDefEqProofs [hbb, hbb', h1, h2]
      refine CallK.with (equal_cells x.cells y.cells) rfl ?_
      simp -implicitDefEqProofs [sameVC, hv]
    · have hv : ¬ x.view = y.view := fun h => h2 (by rw [h])
      have h2b : (x.view.del == y.view.del) = false := by simpa using h2
      simp -implicitDefEqProofs [hbb, hbb', h1, h2, h2b, sameVC, hv]
  · have hv : ¬ x.view = y.view := fun h => h1 (by rw [h])
    have h1b : (x.view.add == y.view.add) = false := by simpa using h1
    simp -implicitDefEqProofs [hbb, hbb', h1, h1b, sameVC, hv]
def EqVCI (a b : List PVC) (t : Nat → AV) (_ : Nat → Option (List AV)) : Prop := ∃ k : Nat, t 15 = .sl .no (rowsVC a) ∧ t 1 = .sl .no (rowsVC b) ∧ t 2 = .fn 124 [] ∧ t 16 = .v (.int .i64 a.length) ∧ t 17 = .v (.int .i64 k) ∧ k ≤ a.length ∧ sameVCs (a.drop k) (b.drop k) = sameVCs a b
theorem equalfVC_spec (a b : List PVC) : ASpec Tryz.prog 123 [.sl .no (rowsVC a), .sl .no (rowsVC b), .fn 124 []] (· = .v (.bool (sameVCs a b))) := by
  refine ASpec.of_awp Tryz.func123 (by kernel_rfl) rfl (by rw [Tryz.results123]) Tryz.ntmps123 ?_
  simp -implicitDefEqProofs
  intro h1 h2
  refine branch_dec (fun hb => ?_) (fun hb => ?_)
  · have hl : a.length = b.length := by omega
    simp -implicitDefEqProofs
    intro _
    refine loopK.intro (EqVCI a b) (fun t => a.length - natOf (t 17)) ?_ ?_
    · exact ⟨0, by simp, by simp, by simp, by simp, by simp, by omega, by simp⟩
    rintro t hh ⟨k, g15, g1, g2, g16, g17, hk, he⟩
    simp -implicitDefEqProofs [g16, g17]
    refine branch_dec (fun hlt => ?_) (fun hlt => ?_)
    · have hlt : k < a.length := by omega
      have hlt2 : k < b.length := by omega
      obtain ⟨x, hx⟩ : ∃ x, a[k]? = some x := ⟨a[k], by simp [hlt]⟩
      obtain ⟨y, hy⟩ : ∃ y, b[k]? = some y := ⟨b[k], by simp [hlt2]⟩
      have hdx : a.drop k = x :: a.drop (k + 1) := by
        rw [List.drop_eq_getElem_cons hlt]; rw [List.getElem?_eq_getElem hlt] at hx; rw [Option.some.inj hx]
      have hdy : b.drop k = y :: b.drop (k + 1) := by
        rw [List.drop_eq_getElem_cons hlt2]; rw [List.getElem?_eq_getElem hlt2] at hy; rw [Option.some.inj hy]
      rw [hdx, hdy, sameVCs] at he
      have hj1 : IntKind.i64.wrap ((k : Int) + 1) = (k : Int) + 1 := w64 (by omega) (by omega)
      simp -implicitDefEqProofs [g15, g17, hx, eVC]
      refine allocK.intro (fun b1 hb1 => ?_)
      simp -implicitDefEqProofs [g1, hy, eVC]
      refine allocK.intro (fun b2 hb2 => ?_)
      have hbb : ¬ b1 = b2 := by rintro rfl; simp at hb2
      have hbb' : ¬ b2 = b1 := fun h => hbb h.symm
      simp -implicitDefEqProofs [g2, hbb, hbb']
      refine CallK.with (sameVC_spec x y) (by simp [eVC]) ?_
      simp -implicitDefEqProofs
      refine branch_intro (fun h3 => ?_) (fun h3 => ?_)
      · rw [h3, Bool.true_and] at he
        simp -implicitDefEqProofs [g17, hj1]
        exact ⟨⟨k + 1, by simp [g15], by simp [g1], by simp [g2], by simp [g16], by simp, by omega, he⟩, by omega⟩
      · rw [h3, Bool.false_and] at he
        simp -implicitDefEqProofs [← he]
    · have hk' : k = a.length := by omega
      subst hk'
      rw [List.drop_length, hl, List.drop_length, sameVCs] at he
      simp -implicitDefEqProofs [← he]
  · have hr : sameVCs a b = false := sameVCs_len (by omega)
    simp -implicitDefEqProofs [hr]
end Go.Proofs.YtjbbfiagijjdoaaGreat

/- Contracts: are two states the same? No condition. -/
set_option linter.unusedSimpArgs false
set_option linter.unusedVariables false
set_option maxRecDepth 10000
namespace Go.Proofs.YtjbbfiagijjdoaaGreat
open Go Go.Rw Go.Proofs
-- a goal is never to be run by the elaborator
attribute [local irreducible] awp aops aop aopsE aeff

def EqiI (a b : List PVI) (t : Nat → AV) (_ : Nat → Option (List AV)) : Prop := ∃ k : Nat, t 0 = .sl .no (rowsVI a) ∧ t 1 = .sl .no (rowsVI b) ∧ t 12 = .v (.int .i64 a.length) ∧ t 13 = .v (.int .i64 k) ∧ k ≤ a.length ∧ a.take k = b.take k
theorem viEq {x y : PVI} : x = y ↔ x.view.add = y.view.add ∧ x.view.del = y.view.del ∧ x.change.add = y.change.add ∧ x.change.del = y.change.del := by
  obtain ⟨⟨a1, d1⟩, ⟨c1, e1⟩⟩ := x
  obtain ⟨⟨a2, d2⟩, ⟨c2, e2⟩⟩ := y
  simp [and_assoc]
instance : DecidableEq PVI := fun x y => decidable_of_iff _ viEq.symm
theorem equal_intents (a b : List PVI) : ASpec Tryz.prog 125 [.sl .no (rowsVI a), .sl .no (rowsVI b)] (· = .v (.bool (decide (a = b)))) := by
  refine ASpec.of_awp Tryz.func125 (by kernel_rfl) rfl (by rw [Tryz.results125]) Tryz.ntmps125 ?_
  simp -implicitDefEqProofs
  intro h1 h2
  refine branch_dec (fun hb => ?_) (fun hb => ?_)
  · have hl : a.length = b.length := by omega
    simp -implicitDefEqProofs
    intro _
    refine loopK.intro (EqiI a b) (fun t => a.length - natOf (t 13)) ?_ ?_
    · exact ⟨0, by simp, by simp, by simp, by simp, by omega, by simp⟩
    rintro t hh ⟨k, g0, g1, g12, g13, hk, he⟩
    simp -implicitDefEqProofs [g12, g13]
    refine branch_dec (fun hlt => ?_) (fun hlt => ?_)
    · have hlt : k < a.length := by omega
      have hlt2 : k < b.length := by omega
      obtain ⟨x, hx⟩ : ∃ x, a[k]? = some x := ⟨a[k], by simp [hlt]⟩
      obtain ⟨y, hy⟩ : ∃ y, b[k]? = some y := ⟨b[k], by simp [hlt2]⟩
      have hj1 : IntKind.i64.wrap ((k : Int) + 1) = (k : Int) + 1 := w64 (by omega) (by omega)
      simp -implicitDefEqProofs [g13]
      refine regionK.intro 9 follows_mixed (by kernel_rfl) ?_
      simp -implicitDefEqProofs [g0, g1, g13, hx, hy, eVI]
      refine branch_intro (fun hb2 => ?_) (fun hb2 => ?_)
      · have hne : x ≠ y := by rintro rfl; simp at hb2
        simp -implicitDefEqProofs
        rintro rfl
        rw [hx] at hy
        exact hne (Option.some.inj hy)
      · have hxy : x = y := by
          rw [viEq]
          simp at hb2
          simp [hb2]
        simp -implicitDefEqProofs [g13, hj1]
        refine ⟨⟨k + 1, by simp [g0], by simp [g1], by simp [g12], by simp, by omega, ?_⟩, by omega⟩
        rw [List.take_add_one, List.take_add_one, he, hx, hy, hxy]
    · have hk' : k = a.length := by omega
      subst hk'
      simp -implicitDefEqProofs
      rw [List.take_length, hl, List.take_length] at he
      exact he
  · simp -implicitDefEqProofs
    rintro rfl; simp at hb
/-- the same state -/
def sameSt (a b : PState) : Bool := sameVBs a.books b.books && (sameVCs a.cells b.cells && (decide (a.intents = b.intents) && (decide (a.held = b.held) && (decide (a.inc = b.inc) && decide (a.last = b.last)))))
theorem foldsame_spec (a b : PState) : ASpec Tryz.prog 64 [.agg (eSt a), .agg (eSt b)] (· = .v (.bool (sameSt a b))) := by
  refine ASpec.of_awp Tryz.func64 (by kernel_rfl) rfl (by rw [Tryz.results64]) Tryz.ntmps64 ?_
  simp -implicitDefEqProofs [eSt]
  refine allocK.intro (fun b1 hb1 => ?_)
  simp -implicitDefEqProofs
  refine allocK.intro (fun b2 hb2 => ?_)
  have n12 : ¬ b1 = b2 := by rintro rfl; simp at hb2
  have n21 : ¬ b2 = b1 := fun h => n12 h.symm
  simp -implicitDefEqProofs [n12, n21]
  refine CallK.with (equalfVB_spec a.books b.books) (by simp [rowsVB]) ?_
  simp -implicitDefEqProofs [n12, n21]
  refine CallK.with (equalfVC_spec a.cells b.cells) (by simp [rowsVC]) ?_
  unfold sameSt
  cases h1 : sameVBs a.books b.books
  · simp -implicitDefEqProofs [n12, n21]
  cases h2 : sameVCs a.cells b.cells
  · simp -implicitDefEqProofs [n12, n21]
  simp -implicitDefEqProofs [n12, n21]
  refine CallK.with (equal_intents a.intents b.intents) (by simp [rowsVI]) ?_
  by_cases h3 : a.intents = b.intents
  · by_cases h4 : a.held.add = b.held.add
    · by_cases h5 : a.held.del = b.held.del
      · have hh : a.held = b.held := by cases hx : a.held; cases hy : b.held; simp_all
        by_cases h6 : a.inc = b.inc
        · by_cases h7 : a.last = b.last
          · simp -implicitDefEqProofs [n12, n21, h3, h4, h5, h6, h7, hh]
          · simp -implicitDefEqProofs [n12, n21, h3, h4, h5, h6, h7, hh]
        · simp -implicitDefEqProofs [n12, n21, h3, h4, h5, h6, hh]
      · have hh : ¬ a.held = b.held := fun h => h5 (by rw [h])
        have h5' : (a.held.del == b.held.del) = false := by simpa using h5
        simp -implicitDefEqProofs [n12, n21, h3, h4, h5, h5', hh]
    · have hh : ¬ a.held = b.held := fun h => h4 (by rw [h])
      have h4' : (a.held.add == b.held.add) = false := by simpa using h4
      simp -implicitDefEqProofs [n12, n21, h3, h4, h4', hh]
  · simp -implicitDefEqProofs [n12, n21, h3]
theorem sameVBs_self (l : List PVB) : sameVBs l l = true := by
  induction l with
  | nil => rfl
  | cons x l ih => simp [sameVBs, sameVB, samesE, ih]
theorem sameVCs_self (l : List PVC) : sameVCs l l = true := by
  induction l with
  | nil => rfl
  | cons x l ih => simp [sameVCs, sameVC, ih]
theorem sameSt_self (s : PState) : sameSt s s = true := by
  unfold sameSt
  rw [sameVBs_self, sameVCs_self]
  simp
end Go.Proofs.YtjbbfiagijjdoaaGreat

/- Contracts: what a node answers. No condition. -/
set_option linter.unusedSimpArgs false
set_option linter.unusedVariables false
set_option maxRecDepth 10000
namespace Go.Proofs.YtjbbfiagijjdoaaGreat
open Go Go.Rw Go.Proofs
-- a goal is never to be run by the elaborator
attribute [local irreducible] awp aops aop aopsE aeff

def eMq (t1 t2 : Tag) (m : PMsg) : List AV := [eI m.kind, eI m.frm, eI m.to, eI m.inc, eI m.seq, eI m.view.add, eI m.view.del, .sl t1 (eCs m.cells), .sl t2 (eEs m.book)]
/-- what a node answers, as a caller has it -/
def serveA (me : Int) (s : PState) (q : PMsg) : AV := .tup [.sl .no (eRs (recsS me s q)), .agg (eM (answerS me s q)), .v (.bool (servable me q))]
def ServeR (me : Int) (s : PState) (q : PMsg) (r : AV) : Prop := r = serveA me s q
theorem servable_no {me : Int} {q : PMsg} (h : ¬ (q.to = me ∧ 0 ≤ q.kind ∧ q.kind ≤ 4)) : servable me q = false := by
  unfold servable
  rw [Bool.and_eq_false_iff, decide_eq_false_iff_not, decide_eq_false_iff_not]
  by_cases h1 : q.to = me
  · exact .inr fun h2 => h ⟨h1, h2⟩
  · exact .inl h1
theorem ServeR.no {me : Int} {s : PState} {q : PMsg} (h : ¬ (q.to = me ∧ 0 ≤ q.kind ∧ q.kind ≤ 4)) : ServeR me s q (.tup [.sl .no [], .agg [eI 0, eI 0, eI 0, eI 0, eI 0, eI 0, eI 0, .sl .no [], .sl .no []], .v (.bool false)]) := by
  unfold ServeR
  rw [serveA, recsS, answerS, servable_no h]
  rfl
theorem ServeR.yes {me : Int} {s : PState} {q : PMsg} (h : q.to = me) (h1 : 0 ≤ q.kind) (h2 : q.kind ≤ 4) {r : AV} (hr : r = .tup [.sl .no (eRs (wroteS s q)), .agg (eM (tellS me s q)), .v (.bool true)]) : ServeR me s q r := by
  have e : servable me q = true := by simp [servable, h, h1, h2]
  unfold ServeR
  rw [serveA, recsS, answerS, e]
  exact hr
def SvM (me : Int) (s : PState) (q : PMsg) (b3 b4 : Nat) (t : Nat → AV) (h : Nat → Option (List AV)) : Prop := ∃ tag : Tag, t 7 = .ptr b3 0 ∧ t 10 = .ptr b4 0 ∧ t 9 = .sl tag (eRs (wroteS s q)) ∧ (∃ z, h b3 = some z ∧ z.length = 9) ∧ h b4 = some (eMq .nil .nil (ansM me q))
def SvC (me : Int) (s : PState) (q : PMsg) (l : List PCell) (b2 b3 b4 : Nat) (t : Nat → AV) (h : Nat → Option (List AV)) : Prop := ∃ (k : Nat) (tag : Tag), t 5 = .ptr b2 0 ∧ t 7 = .ptr b3 0 ∧ t 10 = .ptr b4 0 ∧ t 9 = .sl tag (eRs ((l.take k).map (recC q.view))) ∧ appOK tag 66 11 ∧ t 57 = .sl .no (eCs l) ∧ t 58 = eI l.length ∧ t 59 = eI k ∧ k ≤ l.length ∧ h b2 = some (eM q) ∧ (∃ z, h b3 = some z ∧ z.length = 9) ∧ h b4 = some (eMq .nil .nil (ansM me q))
def SvE (me : Int) (s : PState) (q : PMsg) (l : List PEntry) (b2 b3 b4 : Nat) (t : Nat → AV) (h : Nat → Option (List AV)) : Prop := ∃ (k : Nat) (tag : Tag), t 5 = .ptr b2 0 ∧ t 7 = .ptr b3 0 ∧ t 10 = .ptr b4 0 ∧ t 9 = .sl tag (eRs ((l.take k).map (recE q.view))) ∧ appOK tag 66 11 ∧ t 79 = .sl .no (eEs l) ∧ t 80 = eI l.length ∧ t 81 = eI k ∧ k ≤ l.length ∧ h b2 = some (eM q) ∧ (∃ z, h b3 = some z ∧ z.length = 9) ∧ h b4 = some (eMq .nil .nil (ansM me q))
end Go.Proofs.YtjbbfiagijjdoaaGreat

/- Plain laws: logs there and back. No condition. -/
set_option linter.unusedSimpArgs false
set_option linter.unusedVariables false
namespace Go.Proofs.YtjbbfiagijjdoaaGreat
open Go Go.Rw Go.Proofs

def fitR (r : PRec) : Prop := r.entry.value < 18446744073709551616
def recsB (l : List PRec) : List UInt8 := l.flatMap recB
@[simp] theorem recsB_nil : recsB [] = [] := rfl
end Go.Proofs.YtjbbfiagijjdoaaGreat

/- Contracts: texts; records. No condition. -/
set_option linter.unusedSimpArgs false
set_option linter.unusedVariables false
set_option maxRecDepth 10000
namespace Go.Proofs.YtjbbfiagijjdoaaGreat
open Go Go.Rw Go.Proofs
-- a goal is never to be run by the elaborator
attribute [local irreducible] awp aops aop aopsE aeff

@[simp] theorem take_len_drop {α : Type} (l : List α) (n : Nat) : (l.drop n).take (l.length - n) = l.drop n := List.take_of_length_le (by simp)
def textA (b t : List UInt8) : AV := if 4000 < t.length then .tup [.sl .no [], eI 21] else .tup [.sl .no (eB (b ++ formF t.length ++ t)), eI 0]
def cutA (o : Option (List UInt8 × List UInt8)) : AV := match o with
  | some (t, r) => .tup [.sl .no (eB t), .sl .no (eB r), eI 0]
  | none => .tup [.sl .no [], .sl .no [], eI 21]
end Go.Proofs.YtjbbfiagijjdoaaGreat

/- Contracts: which records can be, and their bytes. No condition. -/
set_option linter.unusedSimpArgs false
set_option linter.unusedVariables false
set_option maxRecDepth 10000
namespace Go.Proofs.YtjbbfiagijjdoaaGreat
open Go Go.Rw Go.Proofs
-- a goal is never to be run by the elaborator
attribute [local irreducible] awp aops aop aopsE aeff

end Go.Proofs.YtjbbfiagijjdoaaGreat

/- Contracts: records as numbers and bytes. No condition. -/
set_option linter.unusedSimpArgs false
set_option linter.unusedVariables false
set_option maxRecDepth 10000
namespace Go.Proofs.YtjbbfiagijjdoaaGreat
open Go Go.Rw Go.Proofs

def Nums (r : PRec) (x : AV) : Prop := ∃ tag, x = .sl tag (eU (numsR r))
def bytesA (o : Option (List UInt8)) : AV := match o with
  | some l => .tup [.sl .no (eB l), eI 0]
  | none => .tup [.sl .no [], eI 91]
end Go.Proofs.YtjbbfiagijjdoaaGreat

/- Contracts: records are read. No condition. -/
set_option linter.unusedSimpArgs false
set_option linter.unusedVariables false
set_option maxRecDepth 10000
namespace Go.Proofs.YtjbbfiagijjdoaaGreat
open Go Go.Rw Go.Proofs

def viewA (n : Nat) : AV := .tup [.agg (eV ((nmdV n).getD zV)), .v (.bool (nmdV n).isSome)]
/-- what is read: a record, if it can be -/
def OptR (o : Option PRec) (x : AV) : Prop := ∃ r, x = .tup [.agg (eRc r), .v (.bool o.isSome)] ∧ ∀ r', o = some r' → r' = r
end Go.Proofs.YtjbbfiagijjdoaaGreat

/- Contracts: log.one, log.Scan, log.Same. No condition. -/
set_option linter.unusedSimpArgs false
set_option linter.unusedVariables false
set_option maxRecDepth 10000
namespace Go.Proofs.YtjbbfiagijjdoaaGreat
open Go Go.Rw Go.Proofs

def LoneI (t0 body : List UInt8) (b : Nat) (t : Nat → AV) (h : Nat → Option (List AV)) : Prop := ∃ (k : Nat) (rest : List UInt8) (cur : List Nat) (tag : Tag), t 0 = .sl .no (eB t0) ∧ t 2 = .ptr b 0 ∧ t 4 = .sl .no (eB rest) ∧ t 6 = .sl tag (eU cur) ∧ appOK tag 166 1 ∧
  h b = some (eRc zR) ∧ rest.length ≤ k ∧ rest.length + cur.length ≤ body.length ∧ allF body = (getsF k rest).map (cur ++ ·)
def LoneM (body : List UInt8) (b : Nat) (t : Nat → AV) (h : Nat → Option (List AV)) : Prop := ∃ (cur : List Nat) (tag : Tag), t 2 = .ptr b 0 ∧ t 6 = .sl tag (eU cur) ∧ h b = some (eRc zR) ∧ allF body = some cur
def scanA (b : List UInt8) : AV := .tup [.sl .no (eRs (scanR b).1), eI (scanR b).2]
def ScI (b : List UInt8) (t : Nat → AV) (h : Nat → Option (List AV)) : Prop := ∃ (n : Nat) (cur : List PRec) (tag : Tag), t 0 = .sl .no (eB b) ∧ t 4 = .sl tag (eRs cur) ∧ t 5 = eI n ∧ appOK tag 66 11 ∧ n ≤ b.length ∧ cur.length ≤ n ∧
  scanR b = (cur ++ (scanR (b.drop n)).1, n + (scanR (b.drop n)).2)
def ScM (b : List UInt8) (t : Nat → AV) (h : Nat → Option (List AV)) : Prop := ∃ tag, t 4 = .sl tag (eRs (scanR b).1) ∧ t 5 = eI (scanR b).2
end Go.Proofs.YtjbbfiagijjdoaaGreat

/- Contracts: log.Same. No condition. -/
set_option linter.unusedSimpArgs false
set_option linter.unusedVariables false
set_option maxRecDepth 10000
namespace Go.Proofs.YtjbbfiagijjdoaaGreat
open Go Go.Rw Go.Proofs

def EqrI (a b : List PRec) (t : Nat → AV) (_ : Nat → Option (List AV)) : Prop := ∃ k : Nat, t 15 = .sl .no (eRs a) ∧ t 1 = .sl .no (eRs b) ∧ t 2 = .fn 129 [] ∧ t 16 = .v (.int .i64 a.length) ∧ t 17 = .v (.int .i64 k) ∧ k ≤ a.length ∧ sameRs (a.drop k) (b.drop k) = sameRs a b

end Go.Proofs.YtjbbfiagijjdoaaGreat

/- Plain: whether a record can be, told otherwise. -/
set_option linter.unusedSimpArgs false
set_option linter.unusedVariables false
set_option maxRecDepth 10000
namespace Go.Proofs.YtjbbfiagijjdoaaGreat
open Go Go.Rw Go.Proofs

def chg9 (r : PRec) : Bool := rightV r.cell.change && !decide (r.cell.change = zV)
def right9F (r : PRec) : Bool :=
  if r.kind = 1 then rightV r.view && checkE (-1) [r.entry] && sameR ⟨0, zV, r.cell, zE, r.n⟩ zR
  else if r.kind = 2 then rightV r.view && chg9 r && decide (0 ≤ r.cell.node ∧ r.cell.node ≤ 5) && sameR ⟨0, zV, zC, r.entry, r.n⟩ zR
  else if r.kind = 3 then rightV r.view && sameR ⟨0, zV, r.cell, r.entry, r.n⟩ zR
  else if r.kind = 4 ∨ r.kind = 6 then decide (1 ≤ r.n ∧ r.n ≤ 1000000) && sameR ⟨0, r.view, r.cell, r.entry, 0⟩ zR
  else if r.kind = 5 then rightV r.view && chg9 r && sameR ⟨0, zV, ⟨r.cell.node, zV⟩, r.entry, r.n⟩ zR
  else false
theorem sizeV_pos {v : PView} (h : rightV v = true) : 0 < sizeV v ↔ ¬ v = zV := by
  have e : sizeV v = (popN 64 v.add.toNat : Int) + popN 64 v.del.toNat := by unfold sizeV; rfl
  have h0 : 0 ≤ sizeV v := by rw [e]; omega
  have hz := sizeV_zero h
  obtain ⟨a, b⟩ := v
  constructor
  · rintro h1 h2
    cases h2
    have := hz.2 ⟨rfl, rfl⟩
    omega
  · intro h1
    have : ¬ sizeV ⟨a, b⟩ = 0 := fun h2 => h1 (by obtain ⟨h3, h4⟩ := hz.1 h2; simp at h3 h4; rw [h3, h4]; rfl)
    omega
theorem right9_eq (r : PRec) : right9F r = rightR r := by
  obtain ⟨k, v, ⟨cn, cc⟩, e, n⟩ := r
  rw [Bool.eq_iff_iff]
  unfold right9F rightR chg9
  by_cases k1 : k = 1
  · subst k1
    simp [sameR_iff, sameE_zero, zR, bareR, sameE_iff]
    constructor
    · rintro ⟨⟨h1, h2⟩, h3, h4⟩
      cases h3
      exact ⟨⟨⟨⟨⟨rfl, h4⟩, h1⟩, rightV_zero⟩, by omega, by omega⟩, h2⟩
    · rintro ⟨⟨⟨⟨⟨h3, h4⟩, h1⟩, _⟩, _⟩, h2⟩
      exact ⟨⟨h1, h2⟩, h3, h4⟩
  by_cases k2 : k = 2
  · subst k2
    by_cases hc : rightV cc = true
    · have hp := sizeV_pos hc
      simp [sameR_iff, sameE_zero, zR, bareR, sameE_iff, hc, hp]
      constructor
      · rintro ⟨⟨⟨h1, h2⟩, h3, h4⟩, h5, h6⟩
        exact ⟨⟨⟨⟨h5, h6⟩, h1⟩, h3, by omega⟩, h2⟩
      · rintro ⟨⟨⟨⟨h5, h6⟩, h1⟩, h3, h4⟩, h2⟩
        exact ⟨⟨⟨h1, h2⟩, h3, by omega⟩, h5, h6⟩
    · simp [hc]
  by_cases k3 : k = 3
  · subst k3
    simp [sameR_iff, sameE_zero, zR, bareR, sameE_iff]
    constructor
    · rintro ⟨h1, h2, h3⟩
      cases h2
      exact ⟨⟨⟨⟨rfl, h3⟩, h1⟩, rightV_zero⟩, by omega, by omega⟩
    · rintro ⟨⟨⟨⟨h2, h3⟩, h1⟩, _⟩, _⟩
      exact ⟨h1, h2, h3⟩
  by_cases k46 : k = 4 ∨ k = 6
  · have k5 : ¬ k = 5 := by omega
    simp [sameR_iff, sameE_zero, zR, bareR, sameE_iff, k1, k2, k3, k5, k46]
    constructor
    · rintro ⟨h1, h2, h3, h4⟩
      cases h3
      cases h2
      exact ⟨⟨⟨⟨⟨by omega, rfl, rfl, h4⟩, rightV_zero⟩, rightV_zero⟩, by omega, by omega⟩, h1⟩
    · rintro ⟨⟨⟨⟨⟨_, h2, h3, h4⟩, _⟩, _⟩, _⟩, h1⟩
      exact ⟨h1, h2, h3, h4⟩
  by_cases k5 : k = 5
  · subst k5
    by_cases hc : rightV cc = true
    · have hp := sizeV_pos hc
      simp [sameR_iff, sameE_zero, zR, bareR, sameE_iff, hc, hp]
      constructor
      · rintro ⟨⟨h1, h2⟩, h3, h4⟩
        cases h3
        exact ⟨⟨⟨⟨rfl, h4⟩, h1⟩, by omega, by omega⟩, h2⟩
      · rintro ⟨⟨⟨⟨rfl, h4⟩, h1⟩, _⟩, h2⟩
        exact ⟨⟨h1, h2⟩, rfl, h4⟩
    · simp [hc]
  · have : ¬ (1 ≤ k ∧ k ≤ 6) := by omega
    simp only [if_neg k1, if_neg k2, if_neg k3, if_neg k46, if_neg k5, decide_eq_false this, Bool.false_and]
end Go.Proofs.YtjbbfiagijjdoaaGreat

/- Contracts: records, told otherwise: alike, Same. No condition. -/
set_option linter.unusedSimpArgs false
set_option linter.unusedVariables false
set_option maxRecDepth 10000
namespace Go.Proofs.YtjbbfiagijjdoaaGreat
open Go Go.Rw Go.Proofs
-- a goal is never to be run by the elaborator
attribute [local irreducible] awp aops aop aopsE aeff

theorem alike9_spec (a b : PRec) (ha : fitR a) (hb : fitR b) : ASpec Tryz.prog 78 [.agg (eRc a), .agg (eRc b)] (· = .v (.bool (sameR a b))) := by
  refine ASpec.of_awp Tryz.func78 (by kernel_rfl) rfl (by rw [Tryz.results78]) Tryz.ntmps78 ?_
  simp -implicitDefEqProofs [eRc]
  refine allocK.intro (fun b1 hb1 => ?_)
  simp -implicitDefEqProofs
  refine allocK.intro (fun b2 hb2 => ?_)
  have hbb : ¬ b1 = b2 := by rintro rfl; simp at hb2
  have hbb' : ¬ b2 = b1 := fun h => hbb h.symm
  by_cases h1 : a.kind = b.kind
  · by_cases h2 : a.view.add = b.view.add ∧ a.view.del = b.view.del
    · obtain ⟨h2, h3⟩ := h2
      by_cases h4 : a.cell.node = b.cell.node ∧ a.cell.change.add = b.cell.change.add ∧ a.cell.change.del = b.cell.change.del
      · obtain ⟨h4, h5, h6⟩ := h4
        by_cases h7 : a.n = b.n
        · simp -implicitDefEqProofs [hbb, hbb', h1, h2, h3, h4, h5, h6, h7]
          refine CallK.with (alike7_spec a.entry b.entry ha hb) (by simp [eE]) ?_
          simp -implicitDefEqProofs [hbb, hbb', h1, h2, h3, h4, h5, h6, h7, sameR]
        · simp -implicitDefEqProofs [hbb, hbb', h1, h2, h3, h4, h5, h6, h7, sameR]
      · have h4' : sameR a b = false := by
          by_cases q : a.cell.node = b.cell.node
          · by_cases q2 : a.cell.change.add = b.cell.change.add
            · have q3 : ¬ a.cell.change.del = b.cell.change.del := fun q3 => h4 ⟨q, q2, q3⟩
              simp [sameR, q3]
            · simp [sameR, q2]
          · simp [sameR, q]
        have h4'' : (a.cell.node == b.cell.node && (a.cell.change.add == b.cell.change.add && a.cell.change.del == b.cell.change.del)) = false := by simpa using h4
        simp -implicitDefEqProofs [hbb, hbb', h1, h2, h3, h4', h4'']
    · have h4' : sameR a b = false := by
        by_cases q : a.view.add = b.view.add
        · have q3 : ¬ a.view.del = b.view.del := fun q3 => h2 ⟨q, q3⟩
          simp [sameR, q3]
        · simp [sameR, q]
      have h4'' : (a.view.add == b.view.add && a.view.del == b.view.del) = false := by simpa using h2
      simp -implicitDefEqProofs [hbb, hbb', h1, h4', h4'']
  · simp -implicitDefEqProofs [hbb, hbb', h1, sameR]

def S9I (a b : List PRec) (t : Nat → AV) (_ : Nat → Option (List AV)) : Prop := ∃ k : Nat, t 0 = .sl .no (eRs a) ∧ t 1 = .sl .no (eRs b) ∧ t 12 = eI a.length ∧ t 13 = eI k ∧ k ≤ a.length ∧ sameRs (a.drop k) (b.drop k) = sameRs a b
theorem fitR_zero : fitR zR := by simp [fitR, zR, zE]
theorem seq_cut {P : Program} {x y : Code} {n : Nat} {t : Nat → AV} {h : Nat → Option (List AV)} {Q : AExit → ASt → Prop} (M : (Nat → AV) → (Nat → Option (List AV)) → Prop) (hx : awp P x (cutQ M n Q) ⟨n, t, h⟩)
    (hy : ∀ t h, M t h → awp P y Q ⟨n, t, h⟩) : awp P (.seq x y) Q ⟨n, t, h⟩ := by
  rw [awp_seqQ]
  exact awp_mono x (cutQ_use hy) hx
theorem chg_ne (v : PView) : (!v.add == 0 || !v.del == 0) = !decide (v = zV) := by
  obtain ⟨a, b⟩ := v
  by_cases h1 : a = 0 <;> by_cases h2 : b = 0 <;> simp [zV, h1, h2]
def R9N (r : PRec) (b1 : Nat) (t : Nat → AV) (h : Nat → Option (List AV)) : Prop := t 1 = .ptr b1 0 ∧ h b1 = some (eRc r) ∧ t 3 = .v (.bool (rightV r.view)) ∧ t 4 = .v (.bool (chg9 r)) ∧ t 5 = .v (.bool (decide (0 ≤ r.cell.node ∧ r.cell.node ≤ 5)))
def R9O (r : PRec) (b1 : Nat) (t : Nat → AV) (h : Nat → Option (List AV)) : Prop := t 1 = .ptr b1 0 ∧ h b1 = some (eRc r) ∧ t 3 = .v (.bool (rightV r.view)) ∧ t 4 = .v (.bool (chg9 r)) ∧ t 5 = .v (.bool (decide (0 ≤ r.cell.node ∧ r.cell.node ≤ 5))) ∧ t 6 = .v (.bool (decide (1 ≤ r.n ∧ r.n ≤ 1000000)))
def R9M (r : PRec) (b1 : Nat) (t : Nat → AV) (h : Nat → Option (List AV)) : Prop := t 1 = .ptr b1 0 ∧ h b1 = some (eRc r) ∧ t 3 = .v (.bool (rightV r.view)) ∧ t 4 = .v (.bool (chg9 r))
theorem right9_spec (r : PRec) (hf : fitR r) : ASpec Tryz.prog 49 [.agg (eRc r)] (· = .v (.bool (right9F r))) := by
  refine ASpec.of_awp Tryz.func49 (by kernel_rfl) rfl (by rw [Tryz.results49]) Tryz.ntmps49 ?_
  simp -implicitDefEqProofs [eRc]
  refine allocK.intro (fun b1 hb1 => ?_)
  simp -implicitDefEqProofs
  refine regionK.cut (R9M r b1) ?_ ?_
  · refine regionK.intro 15 follows_mixed (by kernel_rfl) ?_
    simp -implicitDefEqProofs
    refine CallQ.with (right4_spec r.view) (by simp [eV]) ?_
    simp -implicitDefEqProofs
    refine CallQ.with (right4_spec r.cell.change) (by simp [eV]) ?_
    cases hc : rightV r.cell.change
    · simp -implicitDefEqProofs
      exact ⟨by simp, by simp [eRc], by simp, by simp [chg9, hc]⟩
    · simp -implicitDefEqProofs
      exact ⟨by simp, by simp [eRc], by simp, by simp [chg9, hc]; exact chg_ne _⟩
  · rintro t h ⟨g1, gh, g3, g4⟩
    refine seq_cut (R9N r b1) ?_ ?_
    · rw [eRc] at gh
      by_cases n1 : 0 ≤ r.cell.node
      · simp -implicitDefEqProofs [g1, gh, n1]
        exact ⟨by simp [g1], by simp [gh, eRc], by simp [g3], by simp [g4], by simp [n1]⟩
      · simp -implicitDefEqProofs [g1, gh, n1]
        exact ⟨by simp [g1], by simp [gh, eRc], by simp [g3], by simp [g4], by simp [n1]⟩
    rintro t h ⟨g1, gh, g3, g4, g5⟩
    refine seq_cut (R9O r b1) ?_ ?_
    · rw [eRc] at gh
      by_cases n1 : 1 ≤ r.n
      · simp -implicitDefEqProofs [g1, gh, n1]
        exact ⟨by simp [g1], by simp [gh, eRc], by simp [g3], by simp [g4], by simp [g5], by simp [n1]⟩
      · simp -implicitDefEqProofs [g1, gh, n1]
        exact ⟨by simp [g1], by simp [gh, eRc], by simp [g3], by simp [g4], by simp [g5], by simp [n1]⟩
    rintro t h ⟨g1, gh, g3, g4, g5, g6⟩
    rw [eRc] at gh
    simp -implicitDefEqProofs [g1, gh, g3, g4, g5, g6]
    refine allocK.intro (fun b2 hb2 => ?_)
    have n1 : ¬ b1 = b2 := by rintro rfl; rw [gh] at hb2; simp at hb2
    have n1' : ¬ b2 = b1 := fun h => n1 h.symm
    by_cases k1 : r.kind = 1
    · have e : right9F r = (rightV r.view && checkE (-1) [r.entry] && sameR ⟨0, zV, r.cell, zE, r.n⟩ zR) := by unfold right9F; rw [if_pos k1]
      rw [e]
      cases hv : rightV r.view
      · simp -implicitDefEqProofs [g1, gh, g3, g4, g5, g6, n1, n1', k1, hv]
      · simp -implicitDefEqProofs [g1, gh, g3, g4, g5, g6, n1, n1', k1, hv]
        refine CallK.with (check7_spec [r.entry]) (by simp [eEs, eE]) ?_
        cases hE : checkE (-1) [r.entry]
        · simp -implicitDefEqProofs [g1, gh, g3, g4, g5, g6, n1, n1', k1, hv]
        · simp -implicitDefEqProofs [g1, gh, g3, g4, g5, g6, n1, n1', k1, hv]
          refine CallK.with (alike9_spec ⟨0, zV, r.cell, zE, r.n⟩ zR (by first | exact hf | exact fitR_zero) fitR_zero) (by simp [eRc, zR, zV, zC, zE]) ?_
          simp -implicitDefEqProofs
    by_cases k2 : r.kind = 2
    · have e : right9F r = (rightV r.view && chg9 r && decide (0 ≤ r.cell.node ∧ r.cell.node ≤ 5) && sameR ⟨0, zV, zC, r.entry, r.n⟩ zR) := by unfold right9F; rw [if_neg k1, if_pos k2]
      rw [e]
      cases hv : rightV r.view
      · simp -implicitDefEqProofs [g1, gh, g3, g4, g5, g6, n1, n1', k1, k2, hv]
      cases hc : chg9 r
      · simp -implicitDefEqProofs [g1, gh, g3, g4, g5, g6, n1, n1', k1, k2, hv, hc]
      by_cases hn : 0 ≤ r.cell.node ∧ r.cell.node ≤ 5
      · rw [decide_eq_true hn] at g5 ⊢
        simp -implicitDefEqProofs [g1, gh, g3, g4, g5, g6, n1, n1', k1, k2, hv, hc]
        refine CallK.with (alike9_spec ⟨0, zV, zC, r.entry, r.n⟩ zR (by first | exact hf | exact fitR_zero) fitR_zero) (by simp [eRc, zR, zV, zC, zE]) ?_
        simp -implicitDefEqProofs
      · rw [decide_eq_false hn] at g5 ⊢
        simp -implicitDefEqProofs [g1, gh, g3, g4, g5, g6, n1, n1', k1, k2, hv, hc]
    by_cases k3 : r.kind = 3
    · have e : right9F r = (rightV r.view && sameR ⟨0, zV, r.cell, r.entry, r.n⟩ zR) := by unfold right9F; rw [if_neg k1, if_neg k2, if_pos k3]
      rw [e]
      cases hv : rightV r.view
      · simp -implicitDefEqProofs [g1, gh, g3, g4, g5, g6, n1, n1', k1, k2, k3, hv]
      · simp -implicitDefEqProofs [g1, gh, g3, g4, g5, g6, n1, n1', k1, k2, k3, hv]
        refine CallK.with (alike9_spec ⟨0, zV, r.cell, r.entry, r.n⟩ zR (by first | exact hf | exact fitR_zero) fitR_zero) (by simp [eRc, zR, zV, zC, zE]) ?_
        simp -implicitDefEqProofs
    by_cases k4 : r.kind = 4
    · have e : right9F r = (decide (1 ≤ r.n ∧ r.n ≤ 1000000) && sameR ⟨0, r.view, r.cell, r.entry, 0⟩ zR) := by unfold right9F; rw [if_neg k1, if_neg k2, if_neg k3, if_pos (.inl k4)]
      rw [e]
      by_cases hn : 1 ≤ r.n ∧ r.n ≤ 1000000
      · rw [decide_eq_true hn] at g6 ⊢
        simp -implicitDefEqProofs [g1, gh, g3, g4, g5, g6, n1, n1', k1, k2, k3, k4]
        refine CallK.with (alike9_spec ⟨0, r.view, r.cell, r.entry, 0⟩ zR (by first | exact hf | exact fitR_zero) fitR_zero) (by simp [eRc, zR, zV, zC, zE]) ?_
        simp -implicitDefEqProofs
      · rw [decide_eq_false hn] at g6 ⊢
        simp -implicitDefEqProofs [g1, gh, g3, g4, g5, g6, n1, n1', k1, k2, k3, k4]
    by_cases k6 : r.kind = 6
    · have e : right9F r = (decide (1 ≤ r.n ∧ r.n ≤ 1000000) && sameR ⟨0, r.view, r.cell, r.entry, 0⟩ zR) := by unfold right9F; rw [if_neg k1, if_neg k2, if_neg k3, if_pos (.inr k6)]
      rw [e]
      by_cases hn : 1 ≤ r.n ∧ r.n ≤ 1000000
      · rw [decide_eq_true hn] at g6 ⊢
        simp -implicitDefEqProofs [g1, gh, g3, g4, g5, g6, n1, n1', k1, k2, k3, k4, k6]
        refine CallK.with (alike9_spec ⟨0, r.view, r.cell, r.entry, 0⟩ zR (by first | exact hf | exact fitR_zero) fitR_zero) (by simp [eRc, zR, zV, zC, zE]) ?_
        simp -implicitDefEqProofs
      · rw [decide_eq_false hn] at g6 ⊢
        simp -implicitDefEqProofs [g1, gh, g3, g4, g5, g6, n1, n1', k1, k2, k3, k4, k6]
    by_cases k5 : r.kind = 5
    · have e : right9F r = (rightV r.view && chg9 r && sameR ⟨0, zV, ⟨r.cell.node, zV⟩, r.entry, r.n⟩ zR) := by unfold right9F; rw [if_neg k1, if_neg k2, if_neg k3, if_neg (by omega), if_pos k5]
      rw [e]
      cases hv : rightV r.view
      · simp -implicitDefEqProofs [g1, gh, g3, g4, g5, g6, n1, n1', k1, k2, k3, k4, k6, k5, hv]
      cases hc : chg9 r
      · simp -implicitDefEqProofs [g1, gh, g3, g4, g5, g6, n1, n1', k1, k2, k3, k4, k6, k5, hv, hc]
      · simp -implicitDefEqProofs [g1, gh, g3, g4, g5, g6, n1, n1', k1, k2, k3, k4, k6, k5, hv, hc]
        refine CallK.with (alike9_spec ⟨0, zV, ⟨r.cell.node, zV⟩, r.entry, r.n⟩ zR (by first | exact hf | exact fitR_zero) fitR_zero) (by simp [eRc, zR, zV, zC, zE]) ?_
        simp -implicitDefEqProofs
    have e : right9F r = false := by unfold right9F; rw [if_neg k1, if_neg k2, if_neg k3, if_neg (by omega), if_neg k5]
    rw [e]
    simp -implicitDefEqProofs [g1, gh, g3, g4, g5, g6, n1, n1', k1, k2, k3, k4, k6, k5]
end Go.Proofs.YtjbbfiagijjdoaaGreat

/- Contracts: records' bytes, told otherwise. No condition. -/
set_option linter.unusedSimpArgs false
set_option linter.unusedVariables false
set_option maxRecDepth 10000
namespace Go.Proofs.YtjbbfiagijjdoaaGreat
open Go Go.Rw Go.Proofs

theorem right9r_spec (r : PRec) (hf : fitR r) : ASpec Tryz.prog 49 [.agg (eRc r)] (· = .v (.bool (rightR r))) := by
  rw [← right9_eq]; exact right9_spec r hf
end Go.Proofs.YtjbbfiagijjdoaaGreat

/- Contracts: the laws on replicas, what is alive and what can be. No condition. -/
set_option linter.unusedSimpArgs false
set_option linter.unusedVariables false
set_option maxRecDepth 10000
namespace Go.Proofs.YtjbbfiagijjdoaaGreat
open Go Go.Rw Go.Proofs
-- a goal is never to be run by the elaborator
attribute [local irreducible] awp aops aop aopsE aeff

def v7 : PView := ⟨7, 0⟩
def putM (n : Int) : PMsg := ⟨3, 1, 2, 1, 1, v7, [], [⟨1, ⟨n, 0⟩, 4616189618054758400⟩]⟩
theorem rightV_v7 : rightV v7 = true := by decide
theorem take_all {l : List PRec} {k : Nat} {x : PRec} (hx : l[k]? = some x) (hp : rightR x = true) (hn : ∀ y ∈ l.take k, rightR y = true) : ∀ y ∈ l.take (k + 1), rightR y = true := by
  intro y hy
  rw [List.take_add_one, hx] at hy
  rcases List.mem_append.1 hy with h | h
  · exact hn y h
  · simp at h; rw [h]; exact hp
def R13I (l : List PRec) (b1 : Nat) (q : PMsg) (me : Int) (t : Nat → AV) (h : Nat → Option (List AV)) : Prop := ∃ k : Nat, t 0 = eI me ∧ t 5 = .ptr b1 0 ∧ t 9 = .sl .no (eRs l) ∧ t 10 = eI l.length ∧ t 11 = eI k ∧ k ≤ l.length ∧ h b1 = some (eM q) ∧ ∀ r ∈ l.take k, rightR r = true
def R13M (l : List PRec) (b1 : Nat) (q : PMsg) (me : Int) (t : Nat → AV) (h : Nat → Option (List AV)) : Prop := t 0 = eI me ∧ t 5 = .ptr b1 0 ∧ h b1 = some (eM q) ∧ ∀ r ∈ l, rightR r = true
end Go.Proofs.YtjbbfiagijjdoaaGreat

/- Contracts: the views seen of a state in which nothing was written; what is alive of fold. No condition. -/
set_option linter.unusedSimpArgs false
set_option linter.unusedVariables false
set_option maxRecDepth 10000
namespace Go.Proofs.YtjbbfiagijjdoaaGreat
open Go Go.Rw Go.Proofs
-- a goal is never to be run by the elaborator
attribute [local irreducible] awp aops aop aopsE aeff

theorem ins1_spec (v : PView) (g : FuncId) : ASpec Tryz.prog 177 [.sl .no [eV v], eI 0, eI 1, .fn g []] (fun _ => True) := by
  refine ASpec.of_awp Tryz.func177 (by kernel_rfl) rfl (by rw [Tryz.results177]) Tryz.ntmps177 ?_
  have hw : IntKind.i64.wrap 1 = 1 := by decide
  simp -implicitDefEqProofs [hw]
  refine loopK.intro (fun t h => t 8 = eI 1 ∧ t 2 = eI 1) (fun _ => 0) ?_ ?_
  · simp
  rintro t hh ⟨g8, g2⟩
  simp -implicitDefEqProofs [g8, g2]
theorem pdq1_spec (v : PView) (g : FuncId) (lim : Int) : ASpec Tryz.prog 144 [.sl .no [eV v], eI 0, eI 1, eI lim, .fn g []] (fun _ => True) := by
  refine ASpec.of_awp Tryz.func144 (by kernel_rfl) rfl (by rw [Tryz.results144]) Tryz.ntmps144 ?_
  have hw : IntKind.i64.wrap 1 = 1 := by decide
  simp -implicitDefEqProofs
  refine loopK.intro (fun t h => t 0 = .sl .no [eV v] ∧ t 1 = eI 0 ∧ t 2 = eI 1 ∧ t 4 = .fn g []) (fun _ => 0) ?_ ?_
  · simp
  rintro t hh ⟨g0, g1, g2, g4⟩
  simp -implicitDefEqProofs [g0, g1, g2, g4, hw]
  refine CallK.via (ins1_spec v g) (by simp) ?_
  rintro r -
  simp -implicitDefEqProofs
theorem sort1_spec (v : PView) (g : FuncId) : ASpec Tryz.prog 82 [.sl .no [eV v], .fn g []] (fun _ => True) := by
  refine ASpec.of_awp Tryz.func82 (by kernel_rfl) rfl (by rw [Tryz.results82]) Tryz.ntmps82 ?_
  have hw : IntKind.u64.wrap 1 = 1 := by decide
  simp -implicitDefEqProofs [hw]
  refine CallK.with (bitsLen_spec 1 (by omega)) (by simp) ?_
  simp -implicitDefEqProofs
  refine CallK.via (pdq1_spec v g _) (by simp; rfl) ?_
  rintro r -
  simp -implicitDefEqProofs
theorem compact1_spec (v : PView) : ASpec Tryz.prog 85 [.sl .no [eV v]] (· = .sl .no [eV v]) := by
  refine ASpec.of_awp Tryz.func85 (by kernel_rfl) rfl (by rw [Tryz.results85]) Tryz.ntmps85 ?_
  simp -implicitDefEqProofs
theorem seen1_spec (v : PView) (i a : Int) : ASpec Tryz.prog 34 [.agg (eSt ⟨[], [], [], v, i, a⟩)] (fun r => ∃ tag, r = .sl tag [eV v]) := by
  refine ASpec.of_awp Tryz.func34 (by kernel_rfl) rfl (by rw [Tryz.results34]) Tryz.ntmps34 ?_
  simp -implicitDefEqProofs [eSt]
  refine allocK.intro (fun b1 hb1 => ?_)
  simp -implicitDefEqProofs
  refine bsK.std ?_
  simp -implicitDefEqProofs
  refine loopK.post (fun t h => t 3 = .sl .full [eV v] ∧ t 1 = .ptr b1 0 ∧ t 15 = eI 0 ∧ t 16 = eI 0 ∧ h b1 = some (eSt ⟨[], [], [], v, i, a⟩)) (fun _ => 0) (fun t h => t 3 = .sl .full [eV v] ∧ t 1 = .ptr b1 0 ∧ h b1 = some (eSt ⟨[], [], [], v, i, a⟩)) ?_ ?_ ?_
  · simp [eV, eSt]
  · rintro t hh ⟨g3, g1, g15, g16, c1⟩
    simp -implicitDefEqProofs [g15, g16]
    exact ⟨g3, g1, c1⟩
  rintro t hh ⟨g3, g1, c1⟩
  rw [eSt] at c1
  simp -implicitDefEqProofs [g1, c1]
  refine loopK.post (fun t h => t 3 = .sl .full [eV v] ∧ t 1 = .ptr b1 0 ∧ t 28 = eI 0 ∧ t 29 = eI 0 ∧ h b1 = some (eSt ⟨[], [], [], v, i, a⟩)) (fun _ => 0) (fun t h => t 3 = .sl .full [eV v] ∧ t 1 = .ptr b1 0 ∧ h b1 = some (eSt ⟨[], [], [], v, i, a⟩)) ?_ ?_ ?_
  · simp [g3, g1, c1, eSt]
  · rintro t hh ⟨g3, g1, g15, g16, c1⟩
    simp -implicitDefEqProofs [g15, g16]
    exact ⟨g3, g1, c1⟩
  rintro t hh ⟨g3, g1, c1⟩
  rw [eSt] at c1
  simp -implicitDefEqProofs [g1, c1]
  refine loopK.post (fun t h => t 3 = .sl .full [eV v] ∧ t 41 = eI 0 ∧ t 42 = eI 0) (fun _ => 0) (fun t h => t 3 = .sl .full [eV v]) ?_ ?_ ?_
  · simp [g3]
  · rintro t hh ⟨g3, g15, g16⟩
    simp -implicitDefEqProofs [g15, g16]
    exact g3
  rintro t hh g3
  simp -implicitDefEqProofs [g3]
  refine CallK.via (sort1_spec v 83) (by simp) ?_
  rintro r -
  simp -implicitDefEqProofs [g3]
  refine CallK.with (compact1_spec v) (by simp) ?_
  simp -implicitDefEqProofs
theorem first_spec : ASpec Tryz.prog 63 [] (· = .agg (eV v7)) := by
  refine ASpec.of_awp Tryz.func63 (by kernel_rfl) rfl (by rw [Tryz.results63]) Tryz.ntmps63 ?_
  simp -implicitDefEqProofs
  refine allocK.intro (fun b1 hb1 => ?_)
  simp -implicitDefEqProofs [eV, v7]
def aliveL : List PRec := [⟨4, zV, zC, zE, 5⟩, ⟨4, zV, zC, zE, 3⟩, ⟨3, ⟨15, 0⟩, zC, zE, 0⟩, ⟨3, ⟨7, 1⟩, zC, zE, 0⟩]
theorem alive_right : ∀ r ∈ aliveL, rightR r = true := by decide
theorem alive_fold : foldS v7 aliveL = ⟨[], [], [], ⟨15, 0⟩, 0, 5⟩ := by
  have h : withinV ⟨7, 0⟩ ⟨15, 0⟩ = true := by decide
  have h2 : withinV ⟨15, 0⟩ ⟨7, 1⟩ = false := by decide
  simp [foldS, aliveL, applyS, newS, v7, h, h2]
  try omega
theorem alive12_spec : ASpec Tryz.prog 28 [] (· = .v (.bool true)) := by
  refine ASpec.of_awp Tryz.func28 (by kernel_rfl) rfl (by rw [Tryz.results28]) Tryz.ntmps28 ?_
  simp -implicitDefEqProofs
  refine CallK.eq first_spec ?_
  have hf := fold_spec v7 aliveL rightV_v7 alive_right (by decide)
  rw [alive_fold] at hf
  simp -implicitDefEqProofs [eV, v7]
  refine CallK.with hf (by simp [eV, v7, aliveL, eRs, eRc, zV, zC, zE]) ?_
  simp -implicitDefEqProofs [eSt]
  refine allocK.intro (fun b1 hb1 => ?_)
  simp -implicitDefEqProofs
  refine CallK.via (seen1_spec ⟨15, 0⟩ 0 5) (by simp [eSt]) ?_
  rintro _ ⟨tag, rfl⟩
  simp -implicitDefEqProofs
end Go.Proofs.YtjbbfiagijjdoaaGreat

/- Plain: the same log behind itself changes nothing; records of unlike kinds or views may turn. No condition. -/
set_option linter.unusedSimpArgs false
set_option linter.unusedVariables false
set_option maxRecDepth 10000
namespace Go.Proofs.YtjbbfiagijjdoaaGreat
open Go Go.Rw Go.Proofs

/-- two states that tell the same are the same -/
theorem state_ext {n m : Nat} {s t : PState} (hs : OkT n s) (ht : OkT m t) (h1 : ∀ k, lookK keyVB s.books k = lookK keyVB t.books k) (h2 : ∀ k, lookK keyVC s.cells k = lookK keyVC t.cells k)
    (h3 : ∀ k, lookK keyVI s.intents k = lookK keyVI t.intents k) (h4 : s.held = t.held) (h5 : s.inc = t.inc) (h6 : s.last = t.last) : s = t := by
  have e1 := sort_ext hs.sb ht.sb h1
  have e2 := sort_ext hs.sc ht.sc h2
  have e3 := sort_ext hs.si ht.si h3
  obtain ⟨a, b, c, d, e, f⟩ := s
  obtain ⟨a', b', c', d', e', f'⟩ := t
  simp only at e1 e2 e3 h4 h5 h6
  rw [e1, e2, e3, h4, h5, h6]
/-- the state has the record -/
def hasRec (s : PState) (r : PRec) : Prop :=
  (r.kind = 1 → ∃ b, lookK keyVB s.books (nameV r.view) = some ⟨r.view, b⟩ ∧ lessT (findE b r.entry.key).tag r.entry.tag = false) ∧
  (r.kind = 2 → ∃ c, lookK keyVC s.cells (nameV r.view) = some ⟨r.view, c⟩ ∧ (ofC c r.cell.node).isSome = true) ∧
  (r.kind = 3 → ¬ (withinV s.held r.view = true ∧ ¬ s.held = r.view)) ∧
  (r.kind = 4 → r.n ≤ s.last) ∧
  (r.kind = 5 → (intentS s r.view).isSome = true) ∧
  (r.kind = 6 → r.n ≤ s.inc)
/-! ### within -/
/-! ### what was written is there -/
end Go.Proofs.YtjbbfiagijjdoaaGreat

/- The laws FoldNames and FoldTwice, walked. No condition. -/
set_option linter.unusedSimpArgs false
set_option linter.unusedVariables false
set_option maxRecDepth 10000
namespace Go.Proofs.YtjbbfiagijjdoaaGreat
open Go Go.Rw Go.Proofs
-- a goal is never to be run by the elaborator
attribute [local irreducible] awp aops aop aopsE aeff

def R12I (l : List PRec) (b1 : Nat) (v : PView) (t : Nat → AV) (h : Nat → Option (List AV)) : Prop := ∃ k : Nat, t 2 = .ptr b1 0 ∧ t 7 = .sl .no (eRs l) ∧ t 8 = eI l.length ∧ t 9 = eI k ∧ k ≤ l.length ∧ h b1 = some (eV v) ∧ ∀ r ∈ l.take k, rightR r = true
def R12M (l : List PRec) (b1 : Nat) (v : PView) (t : Nat → AV) (h : Nat → Option (List AV)) : Prop := t 2 = .ptr b1 0 ∧ h b1 = some (eV v) ∧ ∀ r ∈ l, rightR r = true
theorem right12_spec (v : PView) (l : List PRec) (hf : ∀ r ∈ l, fitR r) (hl : l.length ≤ 1000000000) : ASpec Tryz.prog 29 [.agg (eV v), .sl .no (eRs l)] (· = .v (.bool (l.all rightR && rightV v))) := by
  refine ASpec.of_awp Tryz.func29 (by kernel_rfl) rfl (by rw [Tryz.results29]) Tryz.ntmps29 ?_
  simp -implicitDefEqProofs [eV]
  refine allocK.intro (fun b1 hb1 => ?_)
  simp -implicitDefEqProofs
  intro _
  refine loopK.post (R12I l b1 v) (fun t => l.length - natOf (t 9)) (R12M l b1 v) ?_ ?_ ?_
  · exact ⟨0, by simp, by simp, by simp, by simp, by omega, by simp [eV], by simp⟩
  · rintro t hh ⟨k, g5, g9, g10, g11, hk, e1, hr⟩
    by_cases hlt : k < l.length
    · have hlt' : (k : Int) < (l.length : Int) := by omega
      have hw : IntKind.i64.wrap ((k : Int) + 1) = ((k + 1 : Nat) : Int) := by rw [w64 (by omega) (by omega)]; omega
      obtain ⟨r, hx⟩ : ∃ r, l[k]? = some r := ⟨l[k], by simp [hlt]⟩
      have hrs := right9r_spec r (hf r (List.mem_of_getElem? hx))
      simp -implicitDefEqProofs [g9, g10, g11, hlt', hx, eRc]
      refine allocK.intro (fun b2 hb2 => ?_)
      have n12 : ¬ b1 = b2 := by rintro rfl; rw [e1] at hb2; simp at hb2
      have n21 : ¬ b2 = b1 := fun h => n12 h.symm
      simp -implicitDefEqProofs [n12, n21]
      refine CallK.with hrs (by simp [eRc]) ?_
      cases hi : rightR r
      · have hall : l.all rightR = false := by
          rw [Bool.eq_false_iff]
          intro h
          rw [List.all_eq_true] at h
          have := h r (List.mem_of_getElem? hx)
          rw [hi] at this; simp at this
        simp -implicitDefEqProofs [hall]
      · simp -implicitDefEqProofs [g11, hw, n12, n21]
        exact ⟨⟨k + 1, by simp [g5], by simp [g9], by simp [g10], by simp, by omega, by simp [n12, e1], take_all hx hi hr⟩, by omega⟩
    · have hlt' : ¬ (k : Int) < (l.length : Int) := by omega
      rw [List.take_of_length_le (by omega)] at hr
      simp -implicitDefEqProofs [g10, g11, hlt']
      exact ⟨g5, e1, hr⟩
  rintro t hh ⟨g5, e1, hr⟩
  rw [eV] at e1
  have hall : l.all rightR = true := by rw [List.all_eq_true]; exact hr
  simp -implicitDefEqProofs [g5, e1, hall]
  refine CallK.with (right4_spec v) (by simp [eV]) ?_
  simp -implicitDefEqProofs [hall]
theorem right12_of {v : PView} {l : List PRec} (h : (l.all rightR && rightV v) = true) : (∀ r ∈ l, rightR r = true) ∧ rightV v = true := by
  simp only [Bool.and_eq_true, List.all_eq_true] at h
  exact h
def TwI (l : List PRec) (s : PState) (b2 b3 : Nat) (t : Nat → AV) (h : Nat → Option (List AV)) : Prop := ∃ k : Nat, t 5 = .ptr b2 0 ∧ t 6 = .ptr b3 0 ∧ t 24 = .sl .no (eRs l) ∧ t 25 = eI l.length ∧ t 26 = eI k ∧ k ≤ l.length ∧ h b2 = some (eSt s) ∧ h b3 = some (eSt s)
def TwM (s : PState) (b2 b3 : Nat) (t : Nat → AV) (h : Nat → Option (List AV)) : Prop := t 5 = .ptr b2 0 ∧ t 6 = .ptr b3 0 ∧ h b2 = some (eSt s) ∧ h b3 = some (eSt s)
end Go.Proofs.YtjbbfiagijjdoaaGreat

/- Contracts: the document's: are two states the same? No condition. -/
set_option linter.unusedSimpArgs false
set_option linter.unusedVariables false
set_option maxRecDepth 10000
namespace Go.Proofs.YtjbbfiagijjdoaaGreat
open Go Go.Rw Go.Proofs
-- a goal is never to be run by the elaborator
attribute [local irreducible] awp aops aop aopsE aeff

/-- a state whose values are of 64 bits -/
def fitS (s : PState) : Prop := ∀ x ∈ s.books, ∀ e ∈ x.book, e.value < 18446744073709551616
def S12 (a b : PState) (b1 b2 : Nat) (t : Nat → AV) (h : Nat → Option (List AV)) : Prop := t 2 = .ptr b1 0 ∧ t 3 = .ptr b2 0 ∧ h b1 = some (eSt a) ∧ h b2 = some (eSt b)
def S12B (a b : PState) (b1 b2 : Nat) (t : Nat → AV) (h : Nat → Option (List AV)) : Prop := ∃ k : Nat, S12 a b b1 b2 t h ∧ t 56 = eI a.books.length ∧ t 57 = eI k ∧ k ≤ a.books.length ∧ sameVBs (a.books.drop k) (b.books.drop k) = sameVBs a.books b.books
def S12D (a b : PState) (b1 b2 : Nat) (t : Nat → AV) (h : Nat → Option (List AV)) : Prop := ∃ k : Nat, S12 a b b1 b2 t h ∧ t 92 = eI a.cells.length ∧ t 93 = eI k ∧ k ≤ a.cells.length ∧ sameVCs (a.cells.drop k) (b.cells.drop k) = sameVCs a.cells b.cells
def S12E (a b : PState) (b1 b2 : Nat) (t : Nat → AV) (h : Nat → Option (List AV)) : Prop := ∃ k : Nat, S12 a b b1 b2 t h ∧ t 128 = eI a.intents.length ∧ t 129 = eI k ∧ k ≤ a.intents.length ∧ a.intents.take k = b.intents.take k
def S12M (a b : PState) (b1 b2 : Nat) (P : Prop) (t : Nat → AV) (h : Nat → Option (List AV)) : Prop := S12 a b b1 b2 t h ∧ P
end Go.Proofs.YtjbbfiagijjdoaaGreat

/- The law FoldSteps, walked. No condition. -/
set_option linter.unusedSimpArgs false
set_option linter.unusedVariables false
set_option maxRecDepth 10000
namespace Go.Proofs.YtjbbfiagijjdoaaGreat
open Go Go.Rw Go.Proofs
-- a goal is never to be run by the elaborator
attribute [local irreducible] awp aops aop aopsE aeff

def SpI (n : Nat) (v : PView) (l : List PRec) (r : PRec) (s t1 : PState) (b1 b2 b3 b4 : Nat) (t : Nat → AV) (h : Nat → Option (List AV)) : Prop := ∃ (k : Nat) (tg : Tag), t 1 = .sl .no (eRs l) ∧ t 3 = .ptr b1 0 ∧ t 5 = .ptr b2 0 ∧ t 7 = .ptr b3 0 ∧ t 8 = .ptr b4 0 ∧ t 9 = .sl tg (eRs (l ++ [r])) ∧ t 58 = eI n ∧ t 59 = eI k ∧ k ≤ n ∧ h b1 = some (eV v) ∧ h b2 = some (eRc r) ∧ h b3 = some (eSt s) ∧ h b4 = some (eSt t1)
def SpM (v : PView) (l : List PRec) (r : PRec) (s t1 : PState) (b1 b2 b3 b4 : Nat) (t : Nat → AV) (h : Nat → Option (List AV)) : Prop := ∃ tg : Tag, t 1 = .sl .no (eRs l) ∧ t 3 = .ptr b1 0 ∧ t 5 = .ptr b2 0 ∧ t 7 = .ptr b3 0 ∧ t 8 = .ptr b4 0 ∧ t 9 = .sl tg (eRs (l ++ [r])) ∧ h b1 = some (eV v) ∧ h b2 = some (eRc r) ∧ h b3 = some (eSt s) ∧ h b4 = some (eSt t1)
end Go.Proofs.YtjbbfiagijjdoaaGreat

/- Plain: records of unlike kinds or views may turn. The law FoldTurns. No condition. -/
set_option linter.unusedSimpArgs false
set_option linter.unusedVariables false
set_option maxRecDepth 10000
namespace Go.Proofs.YtjbbfiagijjdoaaGreat
open Go Go.Rw Go.Proofs
-- a goal is never to be run by the elaborator
attribute [local irreducible] awp aops aop aopsE aeff

theorem turns_same {n : Nat} {s : PState} (hs : OkT n s) {a b : PRec} (ha : rightR a = true) (hb : rightR b = true) (h : ¬ (a.kind = b.kind ∧ (a.view = b.view ∨ a.kind = 3))) : applyS (applyS s a) b = applyS (applyS s b) a := by
  have hav := (right_cell ha).1
  have hbv := (right_cell hb).1
  have ne : ∀ k : Int, a.kind = k → b.kind = k → ¬ nameV a.view = nameV b.view := fun k h1 h2 h3 => h ⟨by rw [h1, h2], .inl (name_inj hav hbv h3)⟩
  refine state_ext (okT_apply (okT_apply hs ha) hb) (okT_apply (okT_apply hs hb) ha) (fun k => ?_) (fun k => ?_) (fun k => ?_) ?_ ?_ ?_
  · rw [apply_books, apply_books, apply_books, apply_books, bookS_apply hs.toOkN ha hbv, bookS_apply hs.toOkN hb hav]
    by_cases h1 : a.kind = 1 ∧ nameV a.view = k
    · have h2 : ¬ (b.kind = 1 ∧ nameV b.view = k) := fun h2 => ne 1 h1.1 h2.1 (h1.2.trans h2.2.symm)
      have h3 : ¬ (b.kind = 1 ∧ b.view = a.view) := fun h3 => ne 1 h1.1 h3.1 (by rw [h3.2])
      rw [if_neg h2, if_pos h1, if_pos h1, if_neg h3]
    · rw [if_neg h1, if_neg h1]
      by_cases h2 : b.kind = 1 ∧ nameV b.view = k
      · have h3 : ¬ (a.kind = 1 ∧ a.view = b.view) := fun h3 => ne 1 h3.1 h2.1 (by rw [h3.2])
        rw [if_pos h2, if_pos h2, if_neg h3]
      · rw [if_neg h2, if_neg h2]
  · rw [apply_cells, apply_cells, apply_cells, apply_cells, cellsS_apply hs.toOkN ha hbv, cellsS_apply hs.toOkN hb hav]
    by_cases h1 : a.kind = 2 ∧ nameV a.view = k
    · have h2 : ¬ (b.kind = 2 ∧ nameV b.view = k) := fun h2 => ne 2 h1.1 h2.1 (h1.2.trans h2.2.symm)
      have h3 : ¬ (b.kind = 2 ∧ b.view = a.view) := fun h3 => ne 2 h1.1 h3.1 (by rw [h3.2])
      rw [if_neg h2, if_pos h1, if_pos h1, if_neg h3]
    · rw [if_neg h1, if_neg h1]
      by_cases h2 : b.kind = 2 ∧ nameV b.view = k
      · have h3 : ¬ (a.kind = 2 ∧ a.view = b.view) := fun h3 => ne 2 h3.1 h2.1 (by rw [h3.2])
        rw [if_pos h2, if_pos h2, if_neg h3]
      · rw [if_neg h2, if_neg h2]
  · rw [apply_intents, apply_intents, apply_intents, apply_intents, intentS_apply hs.toOkN ha hbv, intentS_apply hs.toOkN hb hav]
    by_cases h1 : a.kind = 5 ∧ nameV a.view = k
    · have h2 : ¬ (b.kind = 5 ∧ nameV b.view = k) := fun h2 => ne 5 h1.1 h2.1 (h1.2.trans h2.2.symm)
      have h2' : ∀ p : Prop, ¬ (b.kind = 5 ∧ p ∧ nameV b.view = k) := fun p h3 => h2 ⟨h3.1, h3.2.2⟩
      have h3 : ¬ (b.kind = 5 ∧ b.view = a.view ∧ intentS s a.view = none) := fun h3 => ne 5 h1.1 h3.1 (by rw [h3.2.1])
      rw [if_neg (h2' _), if_neg h3, if_neg (h2' _)]
    · have h1' : ∀ p : Prop, ¬ (a.kind = 5 ∧ p ∧ nameV a.view = k) := fun p h3 => h1 ⟨h3.1, h3.2.2⟩
      rw [if_neg (h1' _), if_neg (h1' _)]
      by_cases h2 : b.kind = 5 ∧ nameV b.view = k
      · have h3 : ¬ (a.kind = 5 ∧ a.view = b.view ∧ intentS s b.view = none) := fun h3 => ne 5 h3.1 h2.1 (by rw [h3.2.1])
        rw [if_neg h3]
      · have h2' : ∀ p : Prop, ¬ (b.kind = 5 ∧ p ∧ nameV b.view = k) := fun p h3 => h2 ⟨h3.1, h3.2.2⟩
        rw [if_neg (h2' _), if_neg (h2' _)]
  · simp only [apply_held]
    by_cases h1 : a.kind = 3
    · have h2 : ¬ b.kind = 3 := fun h2 => h ⟨by rw [h1, h2], .inr h1⟩
      simp [h1, h2]
    · simp [h1]
  · simp only [apply_inc]
    by_cases h1 : a.kind = 6 <;> by_cases h2 : b.kind = 6 <;> simp [h1, h2] <;> omega
  · simp only [apply_last]
    by_cases h1 : a.kind = 4 <;> by_cases h2 : b.kind = 4 <;> simp [h1, h2] <;> omega
theorem turns12_law (v : PView) (l : List PRec) (a b : PRec) (hf : ∀ r ∈ l, fitR r) (hfa : fitR a) (hfb : fitR b) (hl : l.length ≤ 1048576) : ASpec Tryz.prog 15 [.agg (eV v), .sl .no (eRs l), .agg (eRc a ++ eRc b)] (· = .v (.bool true)) := by
  refine ASpec.of_awp Tryz.func15 (by kernel_rfl) rfl (by rw [Tryz.results15]) Tryz.ntmps15 ?_
  have s85 : slT Tryz.prog 85 = none := by kernel_rfl
  simp -implicitDefEqProofs [eV, eRc]
  refine allocK.intro (fun b1 hb1 => ?_)
  simp -implicitDefEqProofs
  refine allocK.intro (fun b2 hb2 => ?_)
  have n12 : ¬ b1 = b2 := by rintro rfl; simp at hb2
  have n21 : ¬ b2 = b1 := fun h => n12 h.symm
  simp -implicitDefEqProofs [n12, n21]
  refine CallK.eq alive12_spec ?_
  simp -implicitDefEqProofs [n12, n21]
  refine regionK.free [0, 1, 2, 3, 4, 5, 6, 7] [.q, .q, .q, .q, .l, .l, .l, .s] follows_mixed (by kernel_rfl) rfl ?_
  simp -implicitDefEqProofs [pickL, n12, n21, maskH]
  refine allocK.intro (fun b3 hb3 => ?_)
  have n13 : ¬ b1 = b3 := by rintro rfl; simp [n12] at hb3
  have n31 : ¬ b3 = b1 := fun h => n13 h.symm
  have n23 : ¬ b2 = b3 := by rintro rfl; simp at hb3
  have n32 : ¬ b3 = b2 := fun h => n23 h.symm
  simp -implicitDefEqProofs [n12, n21, n13, n31, n23, n32]
  refine allocK.intro (fun b4 hb4 => ?_)
  have n14 : ¬ b1 = b4 := by rintro rfl; simp [n12, n13] at hb4
  have n41 : ¬ b4 = b1 := fun h => n14 h.symm
  have n24 : ¬ b2 = b4 := by rintro rfl; simp [n23] at hb4
  have n42 : ¬ b4 = b2 := fun h => n24 h.symm
  have n34 : ¬ b3 = b4 := by rintro rfl; simp at hb4
  have n43 : ¬ b4 = b3 := fun h => n34 h.symm
  simp -implicitDefEqProofs [n12, n21, n13, n31, n23, n32, n14, n41, n24, n42, n34, n43]
  refine regionK.modes [b2] (qs 12 ++ [.l, .q, .q]) follows_mixed (by kernel_rfl) ?_
  by_cases h60 : 60 < l.length
  · have h60' : (60 : Int) < (l.length : Int) := by omega
    simp -implicitDefEqProofs [n12, n21, n13, n31, n23, n32, n14, n41, n24, n42, n34, n43, h60, h60', maskH, qs, s85]
    done
  have h60' : ¬ (60 : Int) < (l.length : Int) := by omega
  simp -implicitDefEqProofs [n12, n21, n13, n31, n23, n32, n14, n41, n24, n42, n34, n43, h60, h60', maskH, qs, s85]
  refine CallQ.with (right12_spec v l hf (by omega)) (by simp [eV]) ?_
  cases hr : (l.all rightR && rightV v)
  · simp -implicitDefEqProofs [n12, n21, n13, n31, n23, n32, n14, n41, n24, n42, n34, n43, maskH, qs, s85]
    done
  obtain ⟨hr1, hv⟩ := right12_of hr
  simp -implicitDefEqProofs [n12, n21, n13, n31, n23, n32, n14, n41, n24, n42, n34, n43, maskH, qs, s85]
  have hq := right12_spec v [a, b] (by intro r hr; simp at hr; rcases hr with rfl | rfl; exact hfa; exact hfb) (by simp)
  have hlend : MSpec Tryz.prog 29 [.agg (eV v), .sm b2 0 2 2] (one b2 (eRc a ++ eRc b)) (fun r h' => r = .v (.bool ([a, b].all rightR && rightV v)) ∧ h' = one b2 (eRc a ++ eRc b)) :=
    MSpec.lend (sz := 11) (rows := eRs [a, b]) ⟨by simp [eRs, eRc], by simp [eRs, eRc], by simp [eRs, eRc], by simp [eRs, eRc]⟩ (by simpa [frz2, frz1, frz0, eRs, eV] using hq) (by rintro _ rfl; rfl)
  refine LoudK.one hlend (by simp [eV]) (by simp) (by simp [n12, n21, n13, n31, n23, n32, n14, n41, n24, n42, n34, n43, eRc, Weak.refl]) ?_
  cases hr2 : ([a, b].all rightR && rightV v)
  · simp -implicitDefEqProofs [n12, n21, n13, n31, n23, n32, n14, n41, n24, n42, n34, n43, maskH, qs, s85]
  obtain ⟨hr3, -⟩ := right12_of hr2
  have ha : rightR a = true := hr3 a (by simp)
  have hb : rightR b = true := hr3 b (by simp)
  clear hr hr2 hr3 hlend hq
  by_cases hab : a.kind = b.kind ∧ (a.view = b.view ∨ a.kind = 3)
  · obtain ⟨h1, h2⟩ := hab
    rcases h2 with h2 | h2
    · simp -implicitDefEqProofs [n12, n21, n13, n31, n23, n32, n14, n41, n24, n42, n34, n43, maskH, qs, s85, h1, h2, eRc]
    · by_cases h3 : a.view = b.view
      · simp -implicitDefEqProofs [n12, n21, n13, n31, n23, n32, n14, n41, n24, n42, n34, n43, maskH, qs, s85, h1, h3, eRc]
      · have h4 : (a.view.add == b.view.add && a.view.del == b.view.del) = false := by
          cases h5 : (a.view.add == b.view.add && a.view.del == b.view.del)
          · rfl
          · simp at h5; exact absurd (view_eq.2 h5) h3
        have h6 : b.kind = 3 := by rw [← h1]; exact h2
        simp -implicitDefEqProofs [n12, n21, n13, n31, n23, n32, n14, n41, n24, n42, n34, n43, maskH, qs, s85, h1, h2, h4, h6, eRc]
  · have hfold := fold_spec v l hv hr1 (by omega)
    have hok := okT_fold hv hr1 l.length (Nat.le_refl _)
    rw [List.take_length] at hok
    have hts := turns_same hok ha hb hab
    have hp1 := apply_spec (foldS v l) a (hok.ok (by omega)) (right_cell ha).1 (hok.news ha)
    have hp2 := apply_spec (foldS v l) b (hok.ok (by omega)) (right_cell hb).1 (hok.news hb)
    have hok1 := okT_apply hok ha
    have hok2 := okT_apply hok hb
    have hp3 := apply_spec (applyS (foldS v l) a) b (hok1.ok (by omega)) (right_cell hb).1 (hok1.news hb)
    have hp4 := apply_spec (applyS (foldS v l) b) a (hok2.ok (by omega)) (right_cell ha).1 (hok2.news ha)
    rw [← hts] at hp4
    have hsm := foldsame_spec (applyS (applyS (foldS v l) a) b) (applyS (applyS (foldS v l) a) b)
    rw [sameSt_self] at hsm
    clear hok1 hok2 hok hts
    generalize applyS (applyS (foldS v l) a) b = s3 at *
    generalize applyS (foldS v l) a = s1 at *
    generalize applyS (foldS v l) b = s2 at *
    generalize foldS v l = s at *
    by_cases h1 : a.kind = b.kind
    · have h2 : ¬ a.view = b.view := fun h => hab ⟨h1, .inl h⟩
      have h3 : ¬ b.kind = 3 := fun h => hab ⟨h1, .inr (by rw [h1]; exact h)⟩
      have h4 : (a.view.add == b.view.add && a.view.del == b.view.del) = false := by
        cases h5 : (a.view.add == b.view.add && a.view.del == b.view.del)
        · rfl
        · simp at h5; exact absurd (view_eq.2 h5) h2
      simp -implicitDefEqProofs [n12, n21, n13, n31, n23, n32, n14, n41, n24, n42, n34, n43, maskH, qs, s85, eRc, h1, h3, h4]
      refine CallK.with hfold (by simp [eV]) ?_
      simp -implicitDefEqProofs [eSt]
      refine allocK.intro (fun b5 hb5 => ?_)
      have n15 : ¬ b1 = b5 := by rintro rfl; simp [n12, n21, n13, n31, n23, n32, n14, n41, n24, n42, n34, n43] at hb5
      have n51 : ¬ b5 = b1 := fun h => n15 h.symm
      have n25 : ¬ b2 = b5 := by rintro rfl; simp [n12, n21, n13, n31, n23, n32, n14, n41, n24, n42, n34, n43] at hb5
      have n52 : ¬ b5 = b2 := fun h => n25 h.symm
      have n35 : ¬ b3 = b5 := by rintro rfl; simp [n12, n21, n13, n31, n23, n32, n14, n41, n24, n42, n34, n43] at hb5
      have n53 : ¬ b5 = b3 := fun h => n35 h.symm
      have n45 : ¬ b4 = b5 := by rintro rfl; simp [n12, n21, n13, n31, n23, n32, n14, n41, n24, n42, n34, n43] at hb5
      have n54 : ¬ b5 = b4 := fun h => n45 h.symm
      simp -implicitDefEqProofs [n12, n21, n13, n31, n23, n32, n14, n41, n24, n42, n34, n43, n15, n51, n25, n52, n35, n53, n45, n54]
      refine regionK.intro 12 follows_mixed (by kernel_rfl) ?_
      simp -implicitDefEqProofs [n12, n21, n13, n31, n23, n32, n14, n41, n24, n42, n34, n43, n15, n51, n25, n52, n35, n53, n45, n54]
      refine CallQ.with hp1 (by simp [eSt, eRc, h1]) ?_
      simp -implicitDefEqProofs [n12, n21, n13, n31, n23, n32, n14, n41, n24, n42, n34, n43, n15, n51, n25, n52, n35, n53, n45, n54]
      refine CallQ.with hp3 (by simp [eSt, eRc, h1]) ?_
      simp -implicitDefEqProofs [n12, n21, n13, n31, n23, n32, n14, n41, n24, n42, n34, n43, n15, n51, n25, n52, n35, n53, n45, n54]
      refine CallQ.with hp2 (by simp [eSt, eRc, h1]) ?_
      simp -implicitDefEqProofs [n12, n21, n13, n31, n23, n32, n14, n41, n24, n42, n34, n43, n15, n51, n25, n52, n35, n53, n45, n54]
      refine CallQ.with hp4 (by simp [eSt, eRc, h1]) ?_
      simp -implicitDefEqProofs [n12, n21, n13, n31, n23, n32, n14, n41, n24, n42, n34, n43, n15, n51, n25, n52, n35, n53, n45, n54]
      refine CallQ.with hsm (by simp [eSt]) ?_
      simp -implicitDefEqProofs [n12, n21, n13, n31, n23, n32, n14, n41, n24, n42, n34, n43, n15, n51, n25, n52, n35, n53, n45, n54]
    · simp -implicitDefEqProofs [n12, n21, n13, n31, n23, n32, n14, n41, n24, n42, n34, n43, maskH, qs, s85, eRc, h1]
      refine CallK.with hfold (by simp [eV]) ?_
      simp -implicitDefEqProofs [eSt]
      refine allocK.intro (fun b5 hb5 => ?_)
      have n15 : ¬ b1 = b5 := by rintro rfl; simp [n12, n21, n13, n31, n23, n32, n14, n41, n24, n42, n34, n43] at hb5
      have n51 : ¬ b5 = b1 := fun h => n15 h.symm
      have n25 : ¬ b2 = b5 := by rintro rfl; simp [n12, n21, n13, n31, n23, n32, n14, n41, n24, n42, n34, n43] at hb5
      have n52 : ¬ b5 = b2 := fun h => n25 h.symm
      have n35 : ¬ b3 = b5 := by rintro rfl; simp [n12, n21, n13, n31, n23, n32, n14, n41, n24, n42, n34, n43] at hb5
      have n53 : ¬ b5 = b3 := fun h => n35 h.symm
      have n45 : ¬ b4 = b5 := by rintro rfl; simp [n12, n21, n13, n31, n23, n32, n14, n41, n24, n42, n34, n43] at hb5
      have n54 : ¬ b5 = b4 := fun h => n45 h.symm
      simp -implicitDefEqProofs [n12, n21, n13, n31, n23, n32, n14, n41, n24, n42, n34, n43, n15, n51, n25, n52, n35, n53, n45, n54]
      refine regionK.intro 12 follows_mixed (by kernel_rfl) ?_
      simp -implicitDefEqProofs [n12, n21, n13, n31, n23, n32, n14, n41, n24, n42, n34, n43, n15, n51, n25, n52, n35, n53, n45, n54]
      refine CallQ.with hp1 (by simp [eSt, eRc, h1]) ?_
      simp -implicitDefEqProofs [n12, n21, n13, n31, n23, n32, n14, n41, n24, n42, n34, n43, n15, n51, n25, n52, n35, n53, n45, n54]
      refine CallQ.with hp3 (by simp [eSt, eRc, h1]) ?_
      simp -implicitDefEqProofs [n12, n21, n13, n31, n23, n32, n14, n41, n24, n42, n34, n43, n15, n51, n25, n52, n35, n53, n45, n54]
      refine CallQ.with hp2 (by simp [eSt, eRc, h1]) ?_
      simp -implicitDefEqProofs [n12, n21, n13, n31, n23, n32, n14, n41, n24, n42, n34, n43, n15, n51, n25, n52, n35, n53, n45, n54]
      refine CallQ.with hp4 (by simp [eSt, eRc, h1]) ?_
      simp -implicitDefEqProofs [n12, n21, n13, n31, n23, n32, n14, n41, n24, n42, n34, n43, n15, n51, n25, n52, n35, n53, n45, n54]
      refine CallQ.with hsm (by simp [eSt]) ?_
      simp -implicitDefEqProofs [n12, n21, n13, n31, n23, n32, n14, n41, n24, n42, n34, n43, n15, n51, n25, n52, n35, n53, n45, n54]
end Go.Proofs.YtjbbfiagijjdoaaGreat

/- Arguments of the laws on messages, read as plain data. No condition. -/
set_option linter.unusedSimpArgs false
set_option linter.unusedVariables false
set_option maxRecDepth 10000
namespace Go.Proofs.YtjbbfiagijjdoaaGreat
open Go Go.Rw Go.Proofs

theorem own : ownKnob Tryz.prog.godebug = none := by kernel_rfl
theorem laidOut : laidOutB Tryz.prog = true := by kernel_rfl

theorem bulkAll_sum {H : Type} : ∀ l : List (DataW H), Rows.uptoBulkAll l = (l.map Rows.uptoBulk).sum
  | [] => by simp [Rows.uptoBulkAll]
  | d :: l => by simp [Rows.uptoBulkAll, bulkAll_sum l]
theorem bulkOK {H : Type} : BulkOK (Rows.uptoBulk (H := H)) where
  one := fun d => by
    cases d with
    | lit l => cases l <;> simp [Rows.uptoBulk]
    | nil => simp [Rows.uptoBulk]
    | ptr d => simp [Rows.uptoBulk]
    | slice elems spare => simp [Rows.uptoBulk]
    | agg parts => simp [Rows.uptoBulk]
    | iface t d => simp [Rows.uptoBulk]
    | map entries => simp [Rows.uptoBulk]
    | held h => simp [Rows.uptoBulk]
  slice := fun e s => by simp only [Rows.uptoBulk, bulkAll_sum]; omega
  agg := fun p => by simp only [Rows.uptoBulk, bulkAll_sum]; omega
theorem bulk_of {H : Type} {l : List (DataW H)} (hk : Rows.uptoSmall H l = true) : Rows.uptoBulkAll l ≤ 1048576 := of_decide_eq_true hk

section
variable {H : Type} {enc0 : TypeId × Value → H} {W : World}
def inI (n : Int) : Prop := -9223372036854775808 ≤ n ∧ n ≤ 9223372036854775807
theorem reads_int : Reads Tryz.prog Rows.uptoBulk enc0 W 3 (fun n : Int => [eI n]) (fun n _ => inI n) := Reads.int Tryz.underlying3
theorem reads_f64 : Reads Tryz.prog Rows.uptoBulk enc0 W 44 (fun n : Nat => [AV.v (.float .f64 n)]) (fun n _ => n < 18446744073709551616) := Reads.float Tryz.underlying44
theorem reads_view : Reads Tryz.prog Rows.uptoBulk enc0 W 24 eV (fun v _ => inI v.add ∧ inI v.del) :=
  (Reads.struct bulkOK Tryz.underlying24 (by kernel_rfl) (.cons (sz := 1) rfl (by kernel_rfl) reads_int (.cons (sz := 1) rfl (by kernel_rfl) reads_int .nil)) (fun _ _ _ ⟨m, k, h1, h2⟩ _ => ⟨m, k, by omega, h2⟩)).weaken (β := PView)
    (fun p => ⟨p.1, p.2.1⟩) (fun p => rfl) (fun p n ⟨m, k, _, h1, m', k', _, h2, _⟩ => ⟨h1, h2⟩)
theorem reads_tag : Reads Tryz.prog Rows.uptoBulk enc0 W 43 eT (fun v _ => inI v.num ∧ inI v.node) :=
  (Reads.struct bulkOK Tryz.underlying43 (by kernel_rfl) (.cons (sz := 1) rfl (by kernel_rfl) reads_int (.cons (sz := 1) rfl (by kernel_rfl) reads_int .nil)) (fun _ _ _ ⟨m, k, h1, h2⟩ _ => ⟨m, k, by omega, h2⟩)).weaken (β := PTag)
    (fun p => ⟨p.1, p.2.1⟩) (fun p => rfl) (fun p n ⟨m, k, _, h1, m', k', _, h2, _⟩ => ⟨h1, h2⟩)
def goodC (c : PCell) (_ : Nat) : Prop := inI c.node ∧ inI c.change.add ∧ inI c.change.del
theorem reads_cell : Reads Tryz.prog Rows.uptoBulk enc0 W 48 eC goodC :=
  (Reads.struct bulkOK Tryz.underlying48 (by kernel_rfl) (.cons (sz := 1) rfl (by kernel_rfl) reads_int (.cons (sz := 2) rfl (by kernel_rfl) reads_view .nil)) (fun _ _ _ ⟨m, k, h1, h2⟩ _ => ⟨m, k, by omega, h2⟩)).weaken (β := PCell)
    (fun p => ⟨p.1, p.2.1⟩) (fun p => rfl) (fun p n ⟨m, k, _, h1, m', k', _, h2, _⟩ => ⟨h1, h2⟩)
def goodE (x : PEntry) (_ : Nat) : Prop := inI x.key ∧ (inI x.tag.num ∧ inI x.tag.node) ∧ x.value < 18446744073709551616
theorem reads_entry : Reads Tryz.prog Rows.uptoBulk enc0 W 46 eE goodE :=
  (Reads.struct bulkOK Tryz.underlying46 (by kernel_rfl) (.cons (sz := 1) rfl (by kernel_rfl) reads_int (.cons (sz := 2) rfl (by kernel_rfl) reads_tag (.cons (sz := 1) rfl (by kernel_rfl) reads_f64 .nil))) (fun _ _ _ ⟨m, k, h1, h2⟩ _ => ⟨m, k, by omega, h2⟩)).weaken (β := PEntry)
    (fun p => ⟨p.1, p.2.1, p.2.2.1⟩) (fun p => rfl) (fun p n ⟨m, k, _, h1, m', k', _, h2, m2, k2, _, h3, _⟩ => ⟨h1, h2, h3⟩)
structure GoodM (m : PMsg) (n : Nat) : Prop where
  kind : inI m.kind
  frm : inI m.frm
  to : inI m.to
  inc : inI m.inc
  seq : inI m.seq
  view : inI m.view.add ∧ inI m.view.del
  lists : ∃ a b, a + b ≤ n ∧ Goods goodC m.cells a ∧ Goods goodE m.book b
theorem GoodM.fit {m : PMsg} {n : Nat} (h : GoodM m n) : ∀ x ∈ m.book, x.value < 18446744073709551616 := by
  obtain ⟨a, b, h1, h2, h3⟩ := h.lists
  intro x hx
  obtain ⟨_, _, h4⟩ := h3.mem x hx
  exact h4.2.2

def zeroMsg : Value := .agg #[.int .i64 0, .int .i64 0, .int .i64 0, .int .i64 0, .int .i64 0, .int .i64 0, .int .i64 0, .slice none 0 0, .slice none 0 0]
def z0 : DataW H := .lit (.int .i64 0)
def zeroMsgD : DataW H := .agg [z0, z0, z0, z0, z0, .agg [z0, z0], .nil, .nil]
theorem reps_two {I : Imm} {x1 x2 : AV} {y1 y2 : Value} (h1 : Rep I x1 y1) (h2 : Rep I x2 y2) : Reps I [x1, x2] [y1, y2] := cell_reps (reps_one h1) [x2] [y2] (reps_one h2)
theorem reps_three {I : Imm} {x1 x2 x3 : AV} {y1 y2 y3 : Value} (h1 : Rep I x1 y1) (h2 : Rep I x2 y2) (h3 : Rep I x3 y3) : Reps I [x1, x2, x3] [y1, y2, y3] := cell_reps (reps_one h1) [x2, x3] [y2, y3] (reps_two h2 h3)
/-- an argument that is a struct -/
theorem arg_agg {t : TypeId} {fs : Array Field} {α : Type} {enc : α → List AV} {good : α → Nat → Prop} (hr : Reads Tryz.prog Rows.uptoBulk enc0 W t enc good) (ht : Tryz.prog.underlying t = some (.struct fs)) {v : Value} {d : DataW H} {p : List MemPlace} {base : Nat}
    (hok : Value.okWide Tryz.prog W .any base t v) (h : DataW.Trod enc0 Tryz.prog W 0 (fun _ => true) true t v d p) (hb : Rows.uptoBulk d ≤ 1048576) : ∃ a, Rep (allI W) (.agg (enc a)) v ∧ good a (Rows.uptoBulk d) := by
  simp only [Value.okWide, ht] at hok
  obtain ⟨cs, rfl, _, _⟩ := hok
  obtain ⟨fuel, hf⟩ := h
  obtain ⟨a, h1, h2⟩ := hr fuel _ _ hf (show Rows.uptoBulk d ≤ 281474976710656 by omega)
  refine ⟨a, ?_, h2⟩
  have : cs = (Value.agg cs).cells.toList.toArray := by simp [Value.cells]
  conv => rhs; rw [this]
  exact .agg _ h1.1 h1.2
/-- an argument of one cell -/
theorem arg_one {t : TypeId} {α : Type} {enc : α → AV} {good : α → Nat → Prop} (hr : Reads Tryz.prog Rows.uptoBulk enc0 W t (fun a => [enc a]) good) {v : Value} {d : DataW H} {p : List MemPlace}
    (hv : v.cells.toList = [v]) (h : DataW.Trod enc0 Tryz.prog W 0 (fun _ => true) true t v d p) (hb : Rows.uptoBulk d ≤ 1048576) : ∃ a, Rep (allI W) (enc a) v ∧ good a (Rows.uptoBulk d) := by
  obtain ⟨fuel, hf⟩ := h
  obtain ⟨a, h1, h2⟩ := hr fuel _ _ hf (show Rows.uptoBulk d ≤ 281474976710656 by omega)
  rw [hv] at h1
  exact ⟨a, h1.2 0 _ _ rfl rfl, h2⟩
/-- a value that is no struct is one cell -/
theorem one_cell {t : TypeId} {u : TypeDesc} (ht : Tryz.prog.underlying t = some u) (h1 : ∀ fs, u ≠ .struct fs) (h2 : ∀ n e, u ≠ .array n e) {v : Value} {base : Nat} (hok : Value.okWide Tryz.prog W .any base t v) : v.cells.toList = [v] := by
  unfold Value.okWide at hok
  rw [ht] at hok
  have hcell : Cell.okWide Tryz.prog W .any base t v := by
    cases u <;> first | exact hok | exact absurd rfl (h1 _) | exact absurd rfl (h2 _ _)
  cases v with
  | agg cs =>
    unfold Cell.okWide at hcell
    rw [ht] at hcell
    cases u <;> simp [Cell.ok, ht] at hcell
  | _ => rfl
end
end Go.Proofs.YtjbbfiagijjdoaaGreat

/- Arguments of the laws on records, read as plain data. No condition. -/
set_option linter.unusedSimpArgs false
set_option linter.unusedVariables false
set_option maxRecDepth 10000
namespace Go.Proofs.YtjbbfiagijjdoaaGreat
open Go Go.Rw Go.Proofs

section
variable {H : Type} {enc0 : TypeId × Value → H} {W : World}
def goodR (r : PRec) (_ : Nat) : Prop := inI r.kind ∧ (inI r.view.add ∧ inI r.view.del) ∧ goodC r.cell 0 ∧ goodE r.entry 0 ∧ inI r.n
theorem goodR.fit {r : PRec} {n : Nat} (h : goodR r n) : fitR r := h.2.2.2.1.2.2
set_option maxHeartbeats 2000000 in
theorem reads_rec : Reads Tryz.prog Rows.uptoBulk enc0 W 66 eRc goodR :=
  (Reads.struct bulkOK Tryz.underlying66 (by kernel_rfl) (.cons (sz := 1) rfl (by kernel_rfl) reads_int (.cons (sz := 2) rfl (by kernel_rfl) reads_view (.cons (sz := 3) rfl (by kernel_rfl) reads_cell (.cons (sz := 4) rfl (by kernel_rfl) reads_entry (.cons (sz := 1) rfl (by kernel_rfl) reads_int .nil))))) (fun _ _ _ ⟨m, k, h1, h2⟩ _ => ⟨m, k, by omega, h2⟩)).weaken (β := PRec)
    (fun p => ⟨p.1, p.2.1, p.2.2.1, p.2.2.2.1, p.2.2.2.2.1⟩) (fun p => rfl)
    (fun p n ⟨_, _, _, h1, _, _, _, h2, _, _, _, h3, _, _, _, h4, _, _, _, h5, _⟩ => ⟨h1, h2, h3, h4, h5⟩)
theorem reads_recs : Reads Tryz.prog Rows.uptoBulk enc0 W 22 (fun l : List PRec => [AV.sl .no (eRs l)]) (fun l n => Goods goodR l n) :=
  Reads.slice (sz := 11) bulkOK Tryz.underlying22 (by kernel_rfl) (by omega) reads_rec (by intro a x hx; simp [eRc] at hx; rcases hx with rfl | rfl | rfl | rfl | rfl | rfl | rfl | rfl | rfl | rfl | rfl <;> rfl)
theorem goods_fits {l : List PRec} {n : Nat} (h : Goods goodR l n) : ∀ r ∈ l, fitR r := fun r hr => by
  obtain ⟨_, _, h2⟩ := h.mem r hr
  exact h2.fit
def zeroRec : Value := .agg #[.int .i64 0, .int .i64 0, .int .i64 0, .int .i64 0, .int .i64 0, .int .i64 0, .int .i64 0, .int .i64 0, .int .i64 0, .float .f64 0, .int .i64 0]
def zeroRecD : DataW H := .agg [z0, .agg [z0, z0], .agg [z0, .agg [z0, z0]], .agg [z0, .agg [z0, z0], .lit (.float .f64 0)], z0]
end
end Go.Proofs.YtjbbfiagijjdoaaGreat

/- Two records as an argument, read as plain data. No condition. -/
set_option linter.unusedSimpArgs false
set_option linter.unusedVariables false
set_option maxRecDepth 10000
namespace Go.Proofs.YtjbbfiagijjdoaaGreat
open Go Go.Rw Go.Proofs Go.ChangeShapes Go.WideShapes Go.ChangeAt Go.RowKit

section
variable {H : Type} {enc0 : TypeId × Value → H} {W : World}
theorem reads_two : Reads Tryz.prog Rows.uptoBulk enc0 W 85 (fun p : PRec × PRec => eRc p.1 ++ eRc p.2) (fun p n => goodR p.1 n ∧ goodR p.2 n) := by
  intro fuel cs x hx hb
  obtain ⟨xs, m, rfl, rfl, hl, hxl, hel⟩ := DataW.trod_array Tryz.underlying85 hx
  have c22 : Tryz.prog.cellsOf 85 = 22 := by kernel_rfl
  have c11 : Tryz.prog.cellsOf 66 = 11 := by kernel_rfl
  rw [c22] at hl
  rw [c11] at hel
  match xs, hxl with
  | [x0, x1], _ =>
    have h0 := hel 0 (by omega)
    have h1 := hel 1 (by omega)
    simp only [Nat.zero_mul, List.drop_zero, Nat.one_mul, List.getElem?_cons_zero, List.getElem?_cons_succ] at h0 h1
    have hsum := bulkOK.agg ([x0, x1].map (·.1))
    simp only [List.map_cons, List.map_nil, List.sum_cons, List.sum_nil] at hsum hb
    obtain ⟨a, ha, ga⟩ := reads_rec m _ x0 h0 (by omega)
    obtain ⟨b, hb', gb⟩ := reads_rec m _ x1 h1 (by omega)
    refine ⟨(a, b), ?_, ga, gb⟩
    have hcs : cs = cs.take 11 ++ (cs.drop 11).take 11 := by
      have e1 : (cs.drop 11).take 11 = cs.drop 11 := List.take_of_length_le (by simp [hl])
      rw [e1, List.take_append_drop]
    rw [hcs]
    exact cell_reps ha _ _ hb'
/-- an argument that is an array -/
theorem arg_arr {t : TypeId} {n : Nat} {e : TypeId} {α : Type} {enc : α → List AV} {good : α → Nat → Prop} (hr : Reads Tryz.prog Rows.uptoBulk enc0 W t enc good) (ht : Tryz.prog.underlying t = some (.array n e)) {v : Value} {d : DataW H} {p : List MemPlace} {base : Nat}
    (hok : Value.okWide Tryz.prog W .any base t v) (h : DataW.Trod enc0 Tryz.prog W 0 (fun _ => true) true t v d p) (hb : Rows.uptoBulk d ≤ 1048576) : ∃ a, Rep (allI W) (.agg (enc a)) v ∧ good a (Rows.uptoBulk d) := by
  simp only [Value.okWide, ht] at hok
  obtain ⟨cs, rfl, _, _⟩ := hok
  obtain ⟨fuel, hf⟩ := h
  obtain ⟨a, h1, h2⟩ := hr fuel _ _ hf (show Rows.uptoBulk d ≤ 281474976710656 by omega)
  refine ⟨a, ?_, h2⟩
  have : cs = (Value.agg cs).cells.toList.toArray := by simp [Value.cells]
  conv => rhs; rw [this]
  exact .agg _ h1.1 h1.2
def zeroTwo : Value := .agg #[.int .i64 0, .int .i64 0, .int .i64 0, .int .i64 0, .int .i64 0, .int .i64 0, .int .i64 0, .int .i64 0, .int .i64 0, .float .f64 0, .int .i64 0, .int .i64 0, .int .i64 0, .int .i64 0, .int .i64 0, .int .i64 0, .int .i64 0, .int .i64 0, .int .i64 0, .int .i64 0, .float .f64 0, .int .i64 0]
def zeroTwoD : DataW H := .agg [zeroRecD, zeroRecD]
end
end Go.Proofs.YtjbbfiagijjdoaaGreat
