/- Parts of the proof: what is used by the law. No condition. -/
import Derived.Test.YtjbbfiagijjdoaaGreatRwC
set_option linter.unusedSimpArgs false
set_option linter.unusedVariables false
/- Structs are built, parts are taken. No condition. -/
set_option linter.unusedSimpArgs false
set_option linter.unusedVariables false
namespace Go.Rw
section
variable {P : Program} {w : World} {I : Imm}

/-- Rows of cells, one by one. -/
def CR (I : Imm) (cells : List AV) (arr : Array Value) : Prop :=
  cells.length = arr.size ∧ ∀ (j : Nat) (x : AV) (y : Value), cells[j]? = some x → arr[j]? = some y → Rep I x y

theorem aCells_sound {x : AV} {y : Value} {cs : List AV} (h : Rep I x y) (hc : aCells x = some cs) : CR I cs y.cells ∧ ∀ z ∈ cs, cellAV z = true := by
  have one : ∀ {x : AV} {y : Value} {cs : List AV}, Rep I x y → y.cells = #[y] → (if cellAV x = true then some [dead1 x] else none) = some cs → CR I cs y.cells ∧ ∀ z ∈ cs, cellAV z = true := by
    intro x y cs h e hc
    split at hc
    · rename_i hx
      obtain rfl := Option.some.inj hc
      rw [e]
      refine ⟨⟨rfl, fun j a b ha hb => ?_⟩, fun z hz => ?_⟩
      · cases j with
        | zero => simp at ha hb; subst ha; subst hb; exact h.dead
        | succ j => simp at ha
      · simp at hz; subst hz; cases x <;> simp_all [dead1, cellAV]
    · simp at hc
  cases h with
  | v x =>
    by_cases hy : y.oneCell' = true
    · exact one (.v _) (by cases y <;> simp_all [Value.cells, Value.oneCell']) hc
    · simp [aCells, cellAV, hy] at hc
  | nil t => exact one (.nil t) rfl hc
  | empty t ht a c => exact one (.empty t ht a c) rfl hc
  | sl s c ht hcap hlen hs hk hi hr => exact one (.sl s c ht hcap hlen hs hk hi hr) rfl hc
  | ea c hi hr => exact one (.ea c hi hr) rfl hc
  | ptr b o => exact one (.ptr b o) rfl hc
  | agg vs hl hr =>
    simp only [aCells] at hc
    split at hc
    · rename_i hall
      obtain rfl := Option.some.inj hc
      refine ⟨⟨by simpa [Value.cells] using hl, fun j a b ha hb => ?_⟩, fun z hz => List.all_eq_true.1 hall z hz⟩
      simp only [List.getElem?_map] at ha
      simp only [Value.cells, List.getElem?_toArray] at hb
      rename_i cells
      cases hz : cells[j]? with
      | none => simp [hz] at ha
      | some z => simp [hz] at ha; subst ha; exact (hr j z b hz hb).dead
    · simp at hc
  | tup vs hl hr => simp [aCells, cellAV] at hc
  | fn cs hl hr => exact one (.fn cs hl hr) rfl hc
  | sm b o n c h1 h2 h3 => exact one (.sm b o n c h1 h2 h3) rfl hc
  | mn a => exact one (.mn a) rfl hc
  | ob v g o => simp [aCells, cellAV] at hc

/-- What stands in a cell is the value of one cell. -/
theorem oneCell_of {x : AV} {y : Value} (h : Rep I x y) (hx : cellAV x = true) : y.oneCell' = true := by
  cases h with
  | v => exact hx
  | agg => simp [cellAV] at hx
  | tup => simp [cellAV] at hx
  | ob => simp [cellAV] at hx
  | _ => rfl

theorem setRun_get (off : Nat) : ∀ (vs : List Value) (k : Nat) (arr : Array Value) (m : Nat),
    ((vs.zipIdx k).foldl (fun (cs : Array Value) (p : Value × Nat) => cs.setIfInBounds (off + p.2) p.1) arr)[m]? =
      if off + k ≤ m ∧ m < off + k + vs.length ∧ m < arr.size then vs[m - (off + k)]? else arr[m]?
  | [], k, arr, m => by
    have : ¬ (off + k ≤ m ∧ m < off + k + ([] : List Value).length ∧ m < arr.size) := by simp only [List.length_nil]; omega
    rw [if_neg this]; rfl
  | v :: vs, k, arr, m => by
    simp only [List.zipIdx_cons, List.foldl_cons]
    rw [setRun_get off vs (k + 1)]
    simp only [Array.size_setIfInBounds, Array.getElem?_setIfInBounds, List.length_cons]
    by_cases h1 : off + (k + 1) ≤ m ∧ m < off + (k + 1) + vs.length ∧ m < arr.size
    · have h2 : off + k ≤ m ∧ m < off + k + (vs.length + 1) ∧ m < arr.size := by omega
      rw [if_pos h1, if_pos h2]
      have h3 : m - (off + k) = (m - (off + (k + 1))) + 1 := by omega
      rw [h3, List.getElem?_cons_succ]
    · rw [if_neg h1]
      by_cases h2 : off + k = m
      · subst h2
        by_cases h3 : off + k < arr.size
        · simp [h3]
        · simp [h3]
      · have h3 : ¬ (off + k ≤ m ∧ m < off + k + (vs.length + 1) ∧ m < arr.size) := by omega
        rw [if_neg h2, if_neg h3]

theorem setRun_size (off : Nat) : ∀ (vs : List Value) (k : Nat) (arr : Array Value),
    ((vs.zipIdx k).foldl (fun (cs : Array Value) (p : Value × Nat) => cs.setIfInBounds (off + p.2) p.1) arr).size = arr.size
  | [], k, arr => rfl
  | v :: vs, k, arr => by
    simp only [List.zipIdx_cons, List.foldl_cons]
    rw [setRun_size off vs]; simp

theorem overlay_CR {cells xs : List AV} {arr ys : Array Value} {off : Nat} (hc : CR I cells arr) (hx : CR I xs ys) (hle : off + xs.length ≤ cells.length) :
    CR I (overlay cells off xs) (ys.zipIdx.foldl (fun cs (c, j) => cs.setIfInBounds (off + j) c) arr) := by
  have e : ys.zipIdx.foldl (fun (cs : Array Value) (p : Value × Nat) => cs.setIfInBounds (off + p.2) p.1) arr =
      (ys.toList.zipIdx 0).foldl (fun (cs : Array Value) (p : Value × Nat) => cs.setIfInBounds (off + p.2) p.1) arr := by
    rw [← Array.foldl_toList]; simp
  show CR I (overlay cells off xs) (ys.zipIdx.foldl (fun (cs : Array Value) (p : Value × Nat) => cs.setIfInBounds (off + p.2) p.1) arr)
  rw [e]
  obtain ⟨h1, h2⟩ := hc
  obtain ⟨h3, h4⟩ := hx
  refine ⟨?_, fun j x y hx hy => ?_⟩
  · rw [setRun_size]; simp [overlay]; omega
  · rw [setRun_get] at hy
    simp only [overlay, List.getElem?_append, List.length_append, List.length_take, List.getElem?_take, List.getElem?_drop, Nat.add_zero, Array.length_toList] at hx hy
    have hmin : min off cells.length = off := by omega
    simp only [hmin] at hx
    by_cases ha : j < off
    · have hb : ¬ (off ≤ j ∧ j < off + ys.size ∧ j < arr.size) := by omega
      have hc : j < off + xs.length := by omega
      simp only [hc, ha, if_true] at hx
      rw [if_neg hb] at hy
      exact h2 j x y hx hy
    · by_cases hb : j < off + xs.length
      · have hc : off ≤ j ∧ j < off + ys.size ∧ j < arr.size := by omega
        simp only [hb, ha, if_true, if_false] at hx
        rw [if_pos hc] at hy
        exact h4 (j - off) x y hx (by simpa using hy)
      · have hc : ¬ (off ≤ j ∧ j < off + ys.size ∧ j < arr.size) := by omega
        simp only [hb, if_false] at hx
        rw [if_neg hc] at hy
        have e : off + xs.length + (j - (off + xs.length)) = j := by omega
        rw [e] at hx
        exact h2 j x y hx hy

theorem afill_sound {place : Nat → Option (Nat × Nat)} : ∀ (ps : List (Nat × AV)) (qs : List (Nat × Value)) (cells out : List AV) (arr : Array Value),
    CR I cells arr → ps.length = qs.length → (∀ (j : Nat) (p : Nat × AV) (q : Nat × Value), ps[j]? = some p → qs[j]? = some q → p.1 = q.1 ∧ Rep I p.2 q.2) →
    afill place cells ps = some out → ∃ arr', Instr.fill place arr qs = some arr' ∧ CR I out arr'
  | [], [], cells, out, arr, hc, _, _, h => by
    simp only [afill, Option.some.injEq] at h
    subst h
    exact ⟨arr, rfl, hc⟩
  | [], q :: qs, _, _, _, _, hl, _, _ => by simp at hl
  | p :: ps, [], _, _, _, _, hl, _, _ => by simp at hl
  | (i, x) :: ps, (i', y) :: qs, cells, out, arr, hc, hl, hr, h => by
    obtain ⟨e, hrep⟩ := hr 0 _ _ rfl rfl
    simp only at e hrep
    subst e
    simp only [afill] at h
    cases hp : place i with
    | none => simp [hp] at h
    | some p =>
      simp only [hp] at h
      cases hcs : aCells x with
      | none => simp [hcs] at h
      | some cs =>
        simp only [hcs] at h
        split at h
        · rename_i hle
          have hx := (aCells_sound hrep hcs).1
          have h1 : ¬ (y.cells.size ≠ p.2 ∨ p.1 + y.cells.size > arr.size) := by
            have := hx.1; have := hc.1; omega
          have := overlay_CR hc hx (off := p.1) (by omega)
          obtain ⟨arr', hf, hcr⟩ := afill_sound ps qs _ out _ this (by simpa using hl) (fun j p q hp hq => hr (j + 1) p q hp hq) h
          refine ⟨arr', ?_, hcr⟩
          obtain ⟨p1, p2⟩ := p
          unfold Instr.fill
          simp only [hp]
          rw [if_neg (by simpa using h1)]
          exact hf
        · simp at h

theorem zT_some {t : TypeId} {z : List AV} (h : zT P t = some z) : ∃ i v, P.info? t = some i ∧ i.zero = some v ∧ CR I z v.cells ∧ ∀ x ∈ z, cellAV x = true := by
  unfold zT at h
  cases hi : P.info? t with
  | none => simp [hi] at h
  | some i =>
    simp only [hi] at h
    cases hz : i.zero with
    | none => simp [hz] at h
    | some v =>
      simp only [hz] at h
      split at h
      · rename_i hall
        obtain rfl := Option.some.inj h
        refine ⟨i, v, rfl, hz, ⟨by simp, fun j x y hx hy => ?_⟩, fun x hx => List.all_eq_true.1 hall x hx⟩
        have hy' : v.cells.toList[j]? = some y := by simpa using hy
        simp only [List.getElem?_map, hy', Option.map_some, Option.some.injEq] at hx
        subst hx
        unfold z2a
        split
        · exact .nil _
        · exact .v _
      · simp at h

theorem zT_nl {t : TypeId} {z : List AV} (h : zT P t = some z) : ∃ i v, P.info? t = some i ∧ i.zero = some v ∧ CR I (z.map nl) v.cells ∧ ∀ x ∈ z.map nl, dead1 x = x ∨ x = .sl .nil [] := by
  unfold zT at h
  cases hi : P.info? t with
  | none => simp [hi] at h
  | some i =>
    simp only [hi] at h
    cases hz : i.zero with
    | none => simp [hz] at h
    | some v =>
      simp only [hz] at h
      split at h
      · obtain rfl := Option.some.inj h
        refine ⟨i, v, rfl, hz, ⟨by simp, fun j x y hx hy => ?_⟩, fun x hx => ?_⟩
        · have hy' : v.cells.toList[j]? = some y := by simpa using hy
          simp only [List.getElem?_map, hy', Option.map_some, Option.some.injEq] at hx
          subst hx
          unfold z2a
          split
          · exact .nil _
          · exact .v _
        · simp only [List.map_map, List.mem_map, Function.comp] at hx
          obtain ⟨q, _, rfl⟩ := hx
          unfold z2a
          split
          · exact .inr rfl
          · exact .inl rfl
      · simp at h

theorem abuild_sound {t : TypeId} {ps : List (Nat × AV)} {qs : Array (Nat × Value)} {r : AV} (hl : ps.length = qs.size)
    (hr : ∀ (j : Nat) (p : Nat × AV) (q : Nat × Value), ps[j]? = some p → qs[j]? = some q → p.1 = q.1 ∧ Rep I p.2 q.2)
    (h : abuild P t ps = some r) : ∃ v, (Instr.build t qs).run P w = .ok v w ∧ Rep I r v := by
  unfold abuild at h
  cases hz : zT P t with
  | none => simp [hz] at h
  | some z =>
    obtain ⟨i, zv, hi, hzv, hcr, _⟩ := zT_some (I := I) hz
    simp only [hz] at h
    cases hs : sfT P t with
    | some fs =>
      simp only [hs] at h
      cases hf : afill (fun i => fs[i]?) z ps with
      | none => simp [hf] at h
      | some out =>
        simp [hf] at h
        subst h
        obtain ⟨arr, hfill, hout⟩ := afill_sound ps qs.toList z out _ hcr (by simpa using hl) (fun j p q hp hq => hr j p q hp (by simpa using hq)) hf
        refine ⟨.agg arr, run_build w t qs arr ?_, ?_⟩
        · unfold sfT at hs
          split at hs
          · rename_i flds hu
            simp only [Program.built, hi, hu, hzv, hs]
            simpa using hfill
          · simp at hs
        · have : Value.agg arr = Value.agg arr.toList.toArray := by simp
          rw [this]
          exact .agg _ (by simpa using hout.1) (fun j x y hx hy => hout.2 j x y hx (by simpa using hy))
    | none =>
      simp only [hs] at h
      cases ha : arT P t with
      | none => simp [ha] at h
      | some e =>
        obtain ⟨et, ei, hu, hei, hsz⟩ := arT_some ha
        simp only [ha] at h
        cases hf : afill (fun i => some (i * e.2, e.2)) z ps with
        | none => simp [hf] at h
        | some out =>
          simp [hf] at h
          subst h
          obtain ⟨arr, hfill, hout⟩ := afill_sound ps qs.toList z out _ hcr (by simpa using hl) (fun j p q hp hq => hr j p q hp (by simpa using hq)) hf
          refine ⟨.agg arr, run_build w t qs arr ?_, ?_⟩
          · simp only [Program.built, hi, hu, hzv, hei, hsz]
            exact hfill
          · have : Value.agg arr = Value.agg arr.toList.toArray := by simp
            rw [this]
            exact .agg _ (by simpa using hout.1) (fun j x y hx hy => hout.2 j x y hx (by simpa using hy))

theorem abuildN_sound {t : TypeId} {ps : List (Nat × AV)} {qs : Array (Nat × Value)} {r : AV} (hl : ps.length = qs.size)
    (hr : ∀ (j : Nat) (p : Nat × AV) (q : Nat × Value), ps[j]? = some p → qs[j]? = some q → p.1 = q.1 ∧ Rep I p.2 q.2)
    (h : abuildN P t ps = some r) : ∃ v, (Instr.build t qs).run P w = .ok v w ∧ Rep I r v := by
  unfold abuildN at h
  cases hz : zT P t with
  | none => simp [hz] at h
  | some z =>
    obtain ⟨i, zv, hi, hzv, hcr, _⟩ := zT_nl (I := I) hz
    simp only [hz] at h
    cases hs : sfT P t with
    | some fs =>
      simp only [hs] at h
      cases hf : afill (fun i => fs[i]?) (z.map nl) ps with
      | none => simp [hf] at h
      | some out =>
        simp [hf] at h
        subst h
        obtain ⟨arr, hfill, hout⟩ := afill_sound ps qs.toList (z.map nl) out _ hcr (by simpa using hl) (fun j p q hp hq => hr j p q hp (by simpa using hq)) hf
        refine ⟨.agg arr, run_build w t qs arr ?_, ?_⟩
        · unfold sfT at hs
          split at hs
          · rename_i flds hu
            simp only [Program.built, hi, hu, hzv, hs]
            simpa using hfill
          · simp at hs
        · have : Value.agg arr = Value.agg arr.toList.toArray := by simp
          rw [this]
          exact .agg _ (by simpa using hout.1) (fun j x y hx hy => hout.2 j x y hx (by simpa using hy))
    | none =>
      simp only [hs] at h
      cases ha : arT P t with
      | none => simp [ha] at h
      | some e =>
        obtain ⟨et, ei, hu, hei, hsz⟩ := arT_some ha
        simp only [ha] at h
        cases hf : afill (fun i => some (i * e.2, e.2)) (z.map nl) ps with
        | none => simp [hf] at h
        | some out =>
          simp [hf] at h
          subst h
          obtain ⟨arr, hfill, hout⟩ := afill_sound ps qs.toList (z.map nl) out _ hcr (by simpa using hl) (fun j p q hp hq => hr j p q hp (by simpa using hq)) hf
          refine ⟨.agg arr, run_build w t qs arr ?_, ?_⟩
          · simp only [Program.built, hi, hu, hzv, hei, hsz]
            exact hfill
          · have : Value.agg arr = Value.agg arr.toList.toArray := by simp
            rw [this]
            exact .agg _ (by simpa using hout.1) (fun j x y hx hy => hout.2 j x y hx (by simpa using hy))

theorem afield_sound {t : TypeId} {f : Nat} {x r : AV} {a : Value} (hx : Rep I x a) (h : afield P t x f = some r) : ∃ v, (Instr.field t a f).run P w = .ok v w ∧ Rep I r v := by
  unfold afield at h
  split at h
  · rename_i cells off n agg hfv
    unfold fvT at hfv
    split at hfv
    · rename_i fs hu
      cases hg : fs[f]? with
      | none => simp [hg] at hfv
      | some g =>
        simp only [hg] at hfv
        cases hv : vT P g.type with
        | none => simp [hv] at hfv
        | some q =>
          simp [hv] at hfv
          obtain ⟨rfl, rfl, rfl⟩ := hfv
          obtain ⟨i, d, hinf, _, hsz, hag⟩ := vT_some (w := w) hv
          cases hx with
          | agg cs hl hr =>
            have has : (asAgg (.agg cs.toArray)).run P w = .ok cs.toArray w := rfl
            unfold cellsAt at h
            cases hq : q.2 with
            | true =>
              simp only [hq, if_true] at h
              split at h
              · rename_i hle
                obtain rfl := Option.some.inj h
                refine ⟨.agg (cs.toArray.extract g.offset (g.offset + q.1)), ?_, ?_⟩
                · simp [Instr.field, run_underlying hu, hg, has, part, hag, hq, run_sizeOf' hinf, hsz]
                · have : cs.toArray.extract g.offset (g.offset + q.1) = ((cs.drop g.offset).take q.1).toArray := by
                    simp [List.drop_take]
                  rw [this]
                  refine .agg _ (by simp; omega) fun j x y hx hy => ?_
                  simp only [List.getElem?_map, List.getElem?_take, List.getElem?_drop] at hx hy
                  split at hy
                  · rename_i hj
                    simp only [hj, if_true] at hx
                    cases hz : cells[g.offset + j]? with
                    | none => simp [hz] at hx
                    | some z => simp [hz] at hx; subst hx; exact (hr _ _ _ hz hy).dead
                  · simp at hy
              · simp at h
            | false =>
              simp only [hq, Bool.false_eq_true, if_false] at h
              cases hz : cells[g.offset]? with
              | none => simp [hz] at h
              | some z =>
                simp [hz] at h
                subst h
                cases hy : cs[g.offset]? with
                | none =>
                  have h1 := List.getElem?_eq_none_iff.1 hy
                  rw [← hl] at h1
                  rw [List.getElem?_eq_none_iff.2 h1] at hz
                  simp at hz
                | some y =>
                  refine ⟨y, ?_, (hr _ _ _ hz hy).dead⟩
                  simp [Instr.field, run_underlying hu, hg, has, part, hag, hq, hy]
    · simp at hfv
  · simp at h

end
end Go.Rw
