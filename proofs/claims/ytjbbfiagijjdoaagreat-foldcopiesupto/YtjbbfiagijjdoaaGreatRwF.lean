/- Parts of the proof: what is used by the law. No condition. -/
import Derived.Test.YtjbbfiagijjdoaaGreatRwE
import Derived.Great.BuildSlice
set_option linter.unusedSimpArgs false
set_option linter.unusedVariables false
/- Slices are made and grown. No condition. -/
set_option linter.unusedSimpArgs false
set_option linter.unusedVariables false
namespace Go.Rw

/-- more cells that never change: the first n of a block's -/
def immAdd (I : Imm) (b n : Nat) (arr : Array Value) : Imm := fun b' i => if b' = b then (if i < n then arr[i]? else none) else I b' i

theorem heap_push {w w1 : World} (hw : w1.heap = w.heap) (o : Obj) : (∀ b, b < w.heap.size → (w1.alloc o).heap[b]? = w.heap[b]?) ∧ (w1.alloc o).heap[w.heap.size]? = some o ∧ (w1.alloc o).heap.size = w.heap.size + 1 := by
  refine ⟨fun b hb => ?_, ?_, ?_⟩
  · simp only [World.alloc, hw]
    rw [Array.getElem?_push]
    rw [if_neg (by omega)]
  · simp [World.alloc, hw]
  · simp [World.alloc, hw]

theorem ext_alloc {w w1 : World} {I : Imm} (hw : w1.heap = w.heap) (hk : Calm w w1) (hI : ∀ b i v, I b i = some v → w.cell? ⟨b, i, none⟩ = some v) (arr : Array Value) (T n : Nat) :
    Ext w I (w1.alloc (.cells arr T)) (immAdd I w.heap.size n arr) := by
  obtain ⟨h1, h2, h3⟩ := heap_push hw (.cells arr T)
  refine ⟨h1, by omega, fun b hb => ?_, fun b i v h => ?_, hk.trans (Calm.alloc _ _ _)⟩
  · funext i
    simp only [immAdd]
    rw [if_neg (by omega)]
  · simp only [immAdd] at h
    split at h
    · rename_i hb
      subst hb
      split at h
      · simp [World.cell?, h2, h]
      · simp at h
    · have := hI b i v h
      have hlt := cell_lt this
      rw [cell_congr (h1 b hlt)]; exact this

/-- rows out of their values -/
def rowsOf (sz : Nat) : List AV → Option (List (List AV))
  | [] => some []
  | x :: xs => match aCells x with
    | none => none
    | some cs => if cs.length = sz then (rowsOf sz xs).map (cs :: ·) else none

theorem rowsOf_get {sz : Nat} : ∀ {xs : List AV} {rows : List (List AV)}, rowsOf sz xs = some rows → rows.length = xs.length ∧
    ∀ (i : Nat) (r : List AV), rows[i]? = some r → r.length = sz ∧ ∃ x, xs[i]? = some x ∧ aCells x = some r
  | [], rows, h => by simp [rowsOf] at h; subst h; simp
  | x :: xs, rows, h => by
    simp only [rowsOf] at h
    cases hc : aCells x with
    | none => simp [hc] at h
    | some cs =>
      simp only [hc] at h
      split at h
      · rename_i hl
        cases hr : rowsOf sz xs with
        | none => simp [hr] at h
        | some rs =>
          simp [hr] at h
          subst h
          obtain ⟨h1, h2⟩ := rowsOf_get hr
          refine ⟨by simp [h1], fun i r hi => ?_⟩
          cases i with
          | zero => simp at hi; subst hi; exact ⟨hl, x, rfl, hc⟩
          | succ i => simpa using h2 i r (by simpa using hi)
      · simp at h

def abuildSlice (P : Program) (t : TypeId) (n : Nat) (parts : List (Nat × AV)) : Option AV :=
  match slT P t with
  | none => none
  | some e => match zT P e.1 with
    | none => none
    | some _ => if parts.map (·.1) = List.range n ∧ 0 < e.2.1 ∧ n * e.2.1 ≤ 16777216 then (rowsOf e.2.1 (parts.map (·.2))).map (.sl .full) else none

section
variable {P : Program} {w : World} {I : Imm}

/-- rows that lie in a block that is new and whole -/
def BFresh (n : Nat) (I : Imm) (w : World) (rows : List (List AV)) (s : Nat) (y : Value) : Prop := ∃ g cap cur T, y = .slice (some ⟨g, 0, none⟩) rows.length cap ∧ n ≤ g ∧
  (∀ i, rows.length * s ≤ i → I g i = none) ∧ PureR I g rows s cur ∧ w.heap[g]? = some (.cells cur T (0, 0)) ∧ rows.length ≤ cap ∧ cap ≤ Go.maxLen ∧ cur.size = cap * s ∧ (∀ r ∈ rows, r.length = s)
theorem abuildSlice_sound {t : TypeId} {n : Nat} {ps : List (Nat × AV)} {qs : Array (Nat × Value)} {r : AV} (hI : ∀ b i v, I b i = some v → w.cell? ⟨b, i, none⟩ = some v)
    (hl : ps.length = qs.size) (hr : ∀ (j : Nat) (p : Nat × AV) (q : Nat × Value), ps[j]? = some p → qs[j]? = some q → p.1 = q.1 ∧ Rep I p.2 q.2)
    (h : abuildSlice P t n ps = some r) :
    ∃ v w' I', (Instr.buildSlice t n qs).run P w = .ok v w' ∧ Ext w I w' I' ∧ Rep I' r v ∧ (∀ G w p, LiveOK G w p r v) ∧ (∀ rows e, r = .sl .full rows → slT P t = some e → rows ≠ [] → BFresh w.heap.size I' w' rows e.2.1 v) := by
  unfold abuildSlice at h
  cases hs : slT P t with
  | none => simp [hs] at h
  | some e =>
    obtain ⟨inf, hu, hinf, hsz, _⟩ := slT_some hs
    simp only [hs] at h
    cases hz : zT P e.1 with
    | none => simp [hz] at h
    | some z =>
      obtain ⟨i', zv, hi', hzv, _, _⟩ := zT_some (I := I) hz
      obtain rfl : inf = i' := by rw [hinf] at hi'; exact Option.some.inj hi'
      simp only [hz] at h
      split at h
      · rename_i hc
        obtain ⟨hidx, hpos, hsmall⟩ := hc
        cases hrows : rowsOf e.2.1 (ps.map (·.2)) with
        | none => simp [hrows] at h
        | some rows =>
          simp [hrows] at h
          subst h
          obtain ⟨hrl, hrg⟩ := rowsOf_get hrows
          have hpn : ps.length = n := by simpa using congrArg List.length hidx
          have hrn : rows.length = n := by rw [hrl]; simpa using hpn
          by_cases hn : n = 0
          · subst hn
            have e1 : rows = [] := List.eq_nil_of_length_eq_zero hrn
            have e2 : ps = [] := List.eq_nil_of_length_eq_zero hpn
            have e3 : qs = #[] := by apply Array.eq_empty_of_size_eq_zero; rw [← hl, hpn]
            subst e1; subst e2; subst e3
            refine ⟨.slice (some ⟨w.heap.size, 0, none⟩) 0 0, w.alloc (.cells #[] e.1), immAdd I w.heap.size 0 #[], ?_, ext_alloc rfl (Calm.refl w) hI _ _ _, ?_, fun G w p => ⟨_, _, rfl⟩, fun rows e h _ hne => by cases h; exact absurd rfl hne⟩
            · simp [Instr.buildSlice, run_underlying hu, run_sizeOf' hinf, Instr.fill, newRow, Array.range_zero']
            · exact Rep.sl (rows := []) (s := 0) (fun _ _ => .nilFunc) (by simp) (by simp) (by simp) (by simp) (by simp) (by simp) (by simp)
          · have hqn : qs.size = n := by omega
            have hq1 : ∀ (j : Nat) (q : Nat × Value), qs[j]? = some q → q.1 = j := fun j q hq => by
              have hj : j < ps.length := by
                rw [hl]
                rcases Nat.lt_or_ge j qs.size with h' | h'
                · exact h'
                · simp [Array.getElem?_eq_none h'] at hq
              have := (hr j ps[j] q (by simp [hj]) hq).1
              have h2 := congrArg (fun l => l[j]?) hidx
              simp only [List.getElem?_map] at h2
              rw [List.getElem?_eq_getElem hj, List.getElem?_range (by omega)] at h2
              simp at h2
              omega
            have hqs : qs.toList = ((qs.toList.map (·.2)).zipIdx 0).map fun x => (x.2, x.1) := by
              apply List.ext_getElem?
              intro j
              simp only [List.getElem?_map, List.getElem?_zipIdx]
              cases hq : qs.toList[j]? with
              | none => simp
              | some q =>
                have := hq1 j q (by simpa using hq)
                simp [← this]
            have hvals : ∀ v ∈ qs.toList.map (·.2), v.cells.size = e.2.1 := by
              intro v hv
              obtain ⟨j, hj, rfl⟩ := List.getElem_of_mem hv
              simp at hj
              have hj' : j < ps.length := by omega
              obtain ⟨hlen, x, hx, hc⟩ := hrg j (rows[j]'(by omega)) (by simp)
              simp only [List.getElem?_map, List.getElem?_eq_getElem hj', Option.map_some, Option.some.injEq] at hx
              have hrep := (hr j ps[j] qs[j] (by simp [hj']) (by simp [hj])).2
              rw [hx] at hrep
              have := (aCells_sound hrep hc).1.1
              simp
              omega
            obtain ⟨arr, hfill, hasz, hget⟩ := Great.fill_dense hpos (qs.toList.map (·.2)) 0 ((Array.range (n * e.2.1)).map (zv.cells[· % zv.cells.size]!)) hvals (by simp; exact Nat.mul_le_mul_right _ (by omega))
            have hrun := run_buildSlice (P := P) w t e.1 n qs arr inf zv hu hinf hzv (by rw [hsz]; omega) (by rw [hsz]; exact Nat.ne_of_gt (Nat.mul_pos (by omega) hpos)) (by rw [hsz, hqs]; exact hfill)
            have hsub : Sub I (immAdd I w.heap.size (n * e.2.1) arr) := (ext_alloc (w1 := w) rfl (Calm.refl w) hI arr e.1 (n * e.2.1)).sub hI
            have hcell : ∀ i j, i < rows.length → j < e.2.1 → arr[i * e.2.1 + j]? = ((qs.toList.map (·.2))[i]?).bind (fun v => v.cells[j]?) := fun i j hi hj => by
              rw [hget]
              have h1 : (i * e.2.1 + j) / e.2.1 = i := by
                rw [Nat.mul_comm, Nat.mul_add_div hpos, Nat.div_eq_of_lt hj, Nat.add_zero]
              have h2 : (i * e.2.1 + j) % e.2.1 = j := by rw [Nat.mul_comm, Nat.mul_add_mod, Nat.mod_eq_of_lt hj]
              have h3 : i * e.2.1 + j < n * e.2.1 := by
                have : (i + 1) * e.2.1 ≤ n * e.2.1 := Nat.mul_le_mul_right _ (by omega)
                rw [Nat.add_mul] at this; omega
              rw [if_pos ⟨by omega, by simpa [hqn] using h3⟩, h1, h2, Nat.sub_zero]
            have hsome : ∀ i j, i < rows.length → j < e.2.1 → ∃ v, arr[i * e.2.1 + j]? = some v ∧ ∀ r x, rows[i]? = some r → r[j]? = some x → Rep I x v := fun i j hi hj => by
              rw [hcell i j hi hj]
              have hi' : i < qs.size := by omega
              have hip : i < ps.length := by omega
              obtain ⟨hlen, x, hx, hc⟩ := hrg i rows[i] (by simp [hi])
              simp only [List.getElem?_map, List.getElem?_eq_getElem hip, Option.map_some, Option.some.injEq] at hx
              have hrep := (hr i ps[i] qs[i] (by simp [hip]) (by simp [hi'])).2
              rw [hx] at hrep
              obtain ⟨hcr, _⟩ := aCells_sound hrep hc
              have hj' : j < qs[i].2.cells.size := by rw [← hcr.1, hlen]; exact hj
              refine ⟨qs[i].2.cells[j], by simp [hi', hj'], fun r x hr' hx' => ?_⟩
              have : r = rows[i] := by rw [List.getElem?_eq_getElem hi] at hr'; exact (Option.some.inj hr').symm
              subst this
              exact hcr.2 j x _ hx' (by simp [hj'])
            have hrep : Rep (immAdd I w.heap.size (n * e.2.1) arr) (.sl .full rows) (.slice (some ⟨w.heap.size, 0, none⟩) rows.length n) := by
              refine .sl e.2.1 (fun i j => arr.getD (i * e.2.1 + j) undef) (by simp) (by omega) ?_ (fun i r hi => (hrg i r hi).1) (fun i r j x hi hx => ?_) (fun i j hi hj => ?_) (fun i r j x hi hx => ?_)
              · have : n * 1 ≤ n * e.2.1 := Nat.mul_le_mul_left _ hpos
                simp only [maxLen]; omega
              · obtain ⟨_, y, hy, hc⟩ := hrg i r hi
                have hi2 : i < ps.length := by
                  rw [hpn, ← hrn]
                  rcases Nat.lt_or_ge i rows.length with h' | h'
                  · exact h'
                  · simp [List.getElem?_eq_none h'] at hi
                simp only [List.getElem?_map, List.getElem?_eq_getElem hi2, Option.map_some, Option.some.injEq] at hy
                have hrep := (hr i ps[i] (qs[i]'(by omega)) (by simp [hi2]) (by simp)).2
                rw [hy] at hrep
                exact (aCells_sound hrep hc).2 x (List.mem_of_getElem? hx)
              · obtain ⟨v, hv, _⟩ := hsome i j hi hj
                have h3 : i * e.2.1 + j < n * e.2.1 := by
                  have : (i + 1) * e.2.1 ≤ n * e.2.1 := Nat.mul_le_mul_right _ (by omega)
                  rw [Nat.add_mul] at this; omega
                simp only [immAdd, Nat.zero_add, if_true, h3, Array.getD_eq_getD_getElem?, hv, Option.getD_some]
              · have hi' : i < rows.length := by
                  rcases Nat.lt_or_ge i rows.length with h' | h'
                  · exact h'
                  · simp [List.getElem?_eq_none h'] at hi
                have hj' : j < e.2.1 := by
                  rw [← (hrg i r hi).1]
                  rcases Nat.lt_or_ge j r.length with h' | h'
                  · exact h'
                  · simp [List.getElem?_eq_none h'] at hx
                obtain ⟨v, hv, hrepv⟩ := hsome i j hi' hj'
                simp only [Array.getD_eq_getD_getElem?, hv, Option.getD_some]
                exact (hrepv r x hi hx).mono hsub
            have hI0 : ∀ k i v, I k i = some v → ¬ k = w.heap.size := fun k i v hk => by have := cell_lt (hI k i v hk); omega
            have hfresh : ∀ (w1 : World), w1.heap[w.heap.size]? = some (.cells arr e.1 (0, 0)) → BFresh w.heap.size (immAdd I w.heap.size (n * e.2.1) arr) w1 rows e.2.1 (.slice (some ⟨w.heap.size, 0, none⟩) rows.length n) := fun w1 hw => by
              refine ⟨w.heap.size, n, arr, e.1, rfl, Nat.le_refl _, fun i hi => ?_, fun i r j x hi hx => ?_, hw, by omega, ?_, ?_, fun r hr => ?_⟩
              · rw [hrn] at hi
                have : ¬ i < n * e.2.1 := by omega
                simp [immAdd, this]
              · have hi' : i < rows.length := by
                  rcases Nat.lt_or_ge i rows.length with h' | h'
                  · exact h'
                  · simp [List.getElem?_eq_none h'] at hi
                have hj' : j < e.2.1 := by
                  rw [← (hrg i r hi).1]
                  rcases Nat.lt_or_ge j r.length with h' | h'
                  · exact h'
                  · simp [List.getElem?_eq_none h'] at hx
                obtain ⟨v, hv, hrepv⟩ := hsome i j hi' hj'
                refine ⟨v, hv, (hrepv r x hi hx).mono fun k n' v' hk => ?_⟩
                have := hI0 k n' v' hk
                simp only [this, if_false]
                exact hsub k n' v' hk
              · have h9 : n * 1 ≤ n * e.2.1 := Nat.mul_le_mul_left _ hpos
                simp only [Go.maxLen]; omega
              · rw [hasz]; simp
              · obtain ⟨i, hi, rfl⟩ := List.getElem_of_mem hr
                exact (hrg i _ (List.getElem?_eq_getElem hi)).1
            refine ⟨_, _, immAdd I w.heap.size (n * e.2.1) arr, hrun, ext_alloc rfl (Calm.refl w) hI arr e.1 _, ?_, fun G w p => ⟨_, _, rfl⟩, fun rows' e' h1 h2 hne => ?_⟩
            · rw [hrn] at hrep
              exact hrep
            · injection h1 with _ h1
              subst h1
              obtain rfl := Option.some.inj h2
              have := hfresh (w.alloc (.cells arr e.1)) (heap_push rfl (.cells arr e.1)).2.1
              rw [hrn] at this
              exact this
      · simp at h
end
end Go.Rw
