/- Parts of the proof: what is used by the law. No condition. -/
import Derived.Test.YtjbbfiagijjdoaaGreatRwAB
set_option linter.unusedSimpArgs false
set_option linter.unusedVariables false
/- Own memory inside own memory: lent for a call, or frozen where a function ends; new memory that is taken as one's own. No condition. -/
set_option linter.unusedSimpArgs false
set_option linter.unusedVariables false
namespace Go.Rw

/-- what a value says where the objects of h never change -/
inductive Froz (h : Nat → Option (List AV)) : AV → AV → Prop
  | same (x : AV) : Froz h x x
  | dead (x : AV) : Froz h x (dead1 x)
  | sm {b off n c sz : Nat} {cells : List AV} {rows : List (List AV)} (g : Nat → Nat → AV) (hb : h b = some cells) (hn : rows.length = n) (hs : ∀ r ∈ rows, r.length = sz)
      (hk : ∀ r ∈ rows, ∀ x ∈ r, cellAV x = true)
      (hg : ∀ i j, i < n → j < sz → cells[off + i * sz + j]? = some (g i j))
      (hc : ∀ (i : Nat) (r : List AV) (j : Nat) (x : AV), rows[i]? = some r → r[j]? = some x → Froz h (g i j) x) : Froz h (.sm b off n c) (.sl .no rows)
  | agg {cs ds : List AV} (hl : cs.length = ds.length) (hc : ∀ (j : Nat) (x y : AV), cs[j]? = some x → ds[j]? = some y → Froz h x y) : Froz h (.agg cs) (.agg ds)
  | tup {cs ds : List AV} (hl : cs.length = ds.length) (hc : ∀ (j : Nat) (x y : AV), cs[j]? = some x → ds[j]? = some y → Froz h x y) : Froz h (.tup cs) (.tup ds)

theorem Froz.rep {h : Nat → Option (List AV)} {I I' : Imm} (hI : Sub I I')
    (hob : ∀ b cells, h b = some cells → ∃ arr : Array Value, arr.size = cells.length ∧ (∀ i v, arr[i]? = some v → I' b i = some v) ∧ ∀ (j : Nat) (x : AV) (y : Value), cells[j]? = some x → arr[j]? = some y → Rep I x y)
    {x x' : AV} (hf : Froz h x x') : ∀ {y : Value}, Rep I x y → Rep I' x' y := by
  induction hf with
  | same x => exact fun hr => hr.mono hI
  | dead x => exact fun hr => hr.dead.mono hI
  | @sm b off n c sz cells rows g hb hn hs hk hg hc ih =>
    intro y hr
    cases hr with
    | sm _ _ _ _ h1 h2 h3 =>
      obtain ⟨arr, hsz, hi, hcr⟩ := hob b cells hb
      have at_ : ∀ i j, i < n → j < sz → arr[off + i * sz + j]? = some (arr.getD (off + i * sz + j) undef) := fun i j hi hj => by
        have := hg i j hi hj
        have hlt : off + i * sz + j < arr.size := by rw [hsz]; exact (List.getElem?_eq_some_iff.1 this).1
        simp [Array.getD, hlt]
      subst hn
      refine Rep.sl (s := sz) (fun i j => arr.getD (off + i * sz + j) undef) (by simp) h1 h2 (fun i r hr => hs r (List.mem_of_getElem? hr)) (fun i r j x hr hx => hk r (List.mem_of_getElem? hr) x (List.mem_of_getElem? hx)) (fun i j h4 h5 => hi _ _ (at_ i j h4 h5)) ?_
      intro i r j x hri hrj
      have h4 : i < rows.length := (List.getElem?_eq_some_iff.1 hri).1
      have h5 : j < sz := by rw [← hs r (List.mem_of_getElem? hri)]; exact (List.getElem?_eq_some_iff.1 hrj).1
      exact ih i r j x hri hrj (hcr _ _ _ (hg i j h4 h5) (at_ i j h4 h5))
  | @agg cs ds hl hc ih =>
    intro y hr
    cases hr with
    | agg vs hl' hr' =>
      refine .agg vs (by omega) fun j x y hx hy => ?_
      have hj : j < cs.length := by rw [hl]; exact (List.getElem?_eq_some_iff.1 hx).1
      exact ih j cs[j] x (by simp [hj]) hx (hr' j _ y (by simp [hj]) hy)
  | @tup cs ds hl hc ih =>
    intro y hr
    cases hr with
    | tup vs hl' hr' =>
      refine .tup vs (by omega) fun j x y hx hy => ?_
      have hj : j < cs.length := by rw [hl]; exact (List.getElem?_eq_some_iff.1 hx).1
      exact ih j cs[j] x (by simp [hj]) hx (hr' j _ y (by simp [hj]) hy)

/-- the cells that never change, where all objects of h do so too -/
def iced (h : Nat → Option (List AV)) (w : World) (I : Imm) : Imm := fun k i => if (h k).isSome then w.cell? ⟨k, i, none⟩ else I k i

theorem iced_sub {h : Nat → Option (List AV)} {G : Ghost} {w : World} (hrel : HRel h G w) : Sub G.imm (iced h w G.imm) := fun k i v hk => by
  unfold iced
  split
  · exact hrel.imm k i v hk
  · exact hk
theorem iced_cell {h : Nat → Option (List AV)} {G : Ghost} {w : World} (hrel : HRel h G w) : ∀ b i v, iced h w G.imm b i = some v → w.cell? ⟨b, i, none⟩ = some v := fun k i v hk => by
  unfold iced at hk
  split at hk
  · exact hk
  · exact hrel.imm k i v hk
theorem iced_obj {h : Nat → Option (List AV)} {G : Ghost} {w : World} (hrel : HRel h G w) : ∀ b cells, h b = some cells → ∃ arr : Array Value, arr.size = cells.length ∧ (∀ i v, arr[i]? = some v → iced h w G.imm b i = some v) ∧ ∀ (j : Nat) (x : AV) (y : Value), cells[j]? = some x → arr[j]? = some y → Rep G.imm x y := fun b cells hb => by
  obtain ⟨ho, arr, T, hh, hsz, hc⟩ := hrel.obj b cells hb
  refine ⟨arr, hsz, fun i v hv => ?_, fun j x y hx hy => (hc j x y hx hy).1⟩
  simp [iced, hb, World.cell?, hh, hv]
theorem Froz.ice {h : Nat → Option (List AV)} {G : Ghost} {w : World} (hrel : HRel h G w) {x x' : AV} {y : Value} (hf : Froz h x x') (hr : Rep G.imm x y) : Rep (iced h w G.imm) x' y :=
  hf.rep (iced_sub hrel) (iced_obj hrel) hr

def FrozL (h : Nat → Option (List AV)) (xs ys : List AV) : Prop := xs.length = ys.length ∧ ∀ (j : Nat) (x y : AV), xs[j]? = some x → ys[j]? = some y → Froz h x y
theorem FrozL.nil {h : Nat → Option (List AV)} : FrozL h [] [] := ⟨rfl, fun _ _ _ h => by simp at h⟩
theorem FrozL.cons {h : Nat → Option (List AV)} {x y : AV} {xs ys : List AV} (h1 : Froz h x y) (h2 : FrozL h xs ys) : FrozL h (x :: xs) (y :: ys) := by
  refine ⟨by simp [h2.1], fun j a b ha hb => ?_⟩
  cases j with
  | zero => simp at ha hb; subst ha; subst hb; exact h1
  | succ j => simp at ha hb; exact h2.2 j a b ha hb
theorem FrozL.same {h : Nat → Option (List AV)} (xs : List AV) : FrozL h xs xs := ⟨rfl, fun j x y hx hy => by rw [hx] at hy; cases hy; exact .same _⟩
theorem Froz.struct {h : Nat → Option (List AV)} {xs ys : List AV} (hl : FrozL h xs ys) : Froz h (.agg xs) (.agg ys) := .agg hl.1 hl.2

/-- A call to which all of one's memory is lent, as rows. -/
theorem MSpec.lendAll {P : Program} {g : FuncId} {args args' : List AV} {h : Nat → Option (List AV)} {R : AV → Prop} (hf : FrozL h args args') (hsp : ASpec P g args' R) (hfl : ∀ r, R r → Rw.flat2 r = true) :
    MSpec P g args h (fun r h' => R r ∧ h' = h) := by
  intro G w cargs hI hn ha
  have hargs : Reps (iced h w G.imm) args' cargs := by
    refine ⟨by rw [← hf.1]; exact ha.1, fun j x y hx hy => ?_⟩
    have hj : j < args.length := by rw [hf.1]; exact (List.getElem?_eq_some_iff.1 hx).1
    exact (hf.2 j args[j] x (by simp [hj]) hx).ice hI (ha.2 j _ y (by simp [hj]) hy)
  have := hsp _ w cargs (iced_cell hI) hargs
  generalize (callFunc g cargs.toArray).run P w = q at *
  have hnone : ∀ k i, (h k).isSome = true → G.imm k i = none := fun k i hk => by
    obtain ⟨c, hc⟩ := Option.isSome_iff_exists.1 hk
    exact hI.excl k (hI.obj k c hc).1 i
  have conv : ∀ e w', (∃ v q I', e = Ending.returned v ∧ R q ∧ Ext w (iced h w G.imm) w' I' ∧ Rep I' q v ∧ FreshOK w.heap.size I' w' q v) →
      ∃ v r h' G', e = Ending.returned v ∧ (R r ∧ h' = h) ∧ HRel h' G' w' ∧ NoSlot G' ∧ Turned G w G' w' ∧ Rep G'.imm r v ∧ HandOK (fun g => w.heap.size ≤ g ∨ G.own g ≠ none) G' w' r v := by
    rintro e w' ⟨v, x, I', he, hR, hext, hrep, hfr⟩
    have hold : ∀ k, k < w.heap.size → (fun k i => if (h k).isSome then none else I' k i : Imm) k = G.imm k := fun k hk => by
      funext i
      by_cases hs : (h k).isSome = true
      · simp only [hs, if_true]; exact (hnone k i hs).symm
      · simp only [hs, Bool.false_eq_true, if_false]; rw [hext.old k hk]; simp [iced, hs]
    have hext' : Ext w G.imm w' (fun k i => if (h k).isSome then none else I' k i) := ⟨hext.heap, hext.size, hold, fun k i v hk => by
      split at hk
      · simp at hk
      · exact hext.imm k i v hk, hext.calm⟩
    refine ⟨v, x, h, { G with imm := fun k i => if (h k).isSome then none else I' k i }, he, ⟨hR, rfl⟩, hI.ext hext', hn, ⟨hext.size, fun k hk _ => hext.heap k hk, fun k hk _ => hold k hk, hext'.sub hI.imm, fun _ _ h => h, hext.calm⟩, hrep.flat2 (hfl x hR), ?_⟩
    have hff := hfl x hR
    cases x with
    | sl tag rows => simp [Rw.flat2, Rw.flat1, Rw.flat0] at hff
    | ob => simp [Rw.flat2, Rw.flat1, Rw.flat0] at hff
    | _ => trivial
  cases q with
  | ok n w' =>
    cases n <;> simp only [NextUpon] at this ⊢
    · exact conv _ _ this
    · exact this.mono fun e w'' => conv e w''
  | halt x w' => exact this

/-- A function that makes memory of its own and hands it back: as rows, it changes nothing old. -/
theorem MSpec.frozen {P : Program} {f : FuncId} {args : List AV} {R : AV → (Nat → Option (List AV)) → Prop} {R' : AV → Prop} (hm : MSpec P f args (fun _ => none) R)
    (hr : ∀ r h', R r h' → ∃ r', R' r' ∧ Froz h' r r' ∧ dead1 r' = r') : ASpec P f args R' := by
  intro I w cargs hI ha
  have := hm ⟨I, fun _ => none⟩ w cargs ⟨hI, fun b c h => by simp at h, fun b h => by simp at h, fun b o h => by simp at h⟩ (fun g i => by simp) ha
  generalize (callFunc f cargs.toArray).run P w = q at *
  have conv : ∀ e w', (∃ v r h' G', e = Ending.returned v ∧ R r h' ∧ HRel h' G' w' ∧ NoSlot G' ∧ Turned ⟨I, fun _ => none⟩ w G' w' ∧ Rep G'.imm r v ∧ HandOK (fun g => w.heap.size ≤ g ∨ (⟨I, fun _ => none⟩ : Ghost).own g ≠ none) G' w' r v) →
      ∃ v r I', e = Ending.returned v ∧ R' r ∧ Ext w I w' I' ∧ Rep I' r v ∧ FreshOK w.heap.size I' w' r v := by
    rintro e w' ⟨v, r, h', G', he, hR, hrel, hns, ht, hrep, -⟩
    obtain ⟨r', hR', hfz, hd⟩ := hr r h' hR
    refine ⟨v, r', iced h' w' G'.imm, he, hR', ⟨fun b hb => ht.heap b hb rfl, ht.size, fun b hb => ?_, iced_cell hrel, ht.calm⟩, hfz.ice hrel hrep, ?_⟩
    · have ho := ht.own b hb rfl
      have hn : (h' b).isSome = false := by
        cases hb' : h' b with
        | none => rfl
        | some c => have := (hrel.obj b c hb').1; rw [ho] at this; simp at this
      have := ht.imm b hb rfl
      funext i
      simp only [iced, hn, Bool.false_eq_true, if_false]
      rw [this]
    · cases r' with
      | sl tag rows => cases tag <;> simp [dead1] at hd <;> trivial
      | ob => simp [dead1] at hd
      | _ => trivial
  cases q with
  | ok n w' =>
    cases n <;> simp only [NextUpon] at this ⊢
    · exact conv _ _ this
    · exact this.mono fun e w'' => conv e w''
  | halt x w' => exact this

/-- New memory that a function hands back, as one's own. -/
theorem MSpec.thaw {P : Program} {f : FuncId} {args : List AV} {e sz : Nat} {rows : List (List AV)} (h : ASpec P f args (· = .sl (.live e sz true) rows)) (hne : rows ≠ []) :
    MSpec P f args (fun _ => none) (fun r h' => ∃ (b cap : Nat) (spare : List Value), r = .sm b 0 rows.length cap ∧ rows.length ≤ cap ∧ spare.length + rows.length * sz = cap * sz ∧ h' = one b (rows.flatten.map dead1 ++ spare.map AV.v)) := by
  intro G w cargs hI hn ha
  have := h G.imm w cargs hI.imm ha
  generalize (callFunc f cargs.toArray).run P w = q at *
  have conv : ∀ en w', (∃ v r I', en = Ending.returned v ∧ r = .sl (.live e sz true) rows ∧ Ext w G.imm w' I' ∧ Rep I' r v ∧ FreshOK w.heap.size I' w' r v) →
      ∃ v r h' G', en = Ending.returned v ∧ (∃ (b cap : Nat) (spare : List Value), r = .sm b 0 rows.length cap ∧ rows.length ≤ cap ∧ spare.length + rows.length * sz = cap * sz ∧ h' = one b (rows.flatten.map dead1 ++ spare.map AV.v)) ∧ HRel h' G' w' ∧ NoSlot G' ∧ Turned G w G' w' ∧ Rep G'.imm r v ∧ HandOK (fun g => w.heap.size ≤ g ∨ G.own g ≠ none) G' w' r v := by
    rintro en w' ⟨v, r, I', he, rfl, hext, hrep, hf⟩
    rcases hf with ⟨h, _⟩ | ⟨g, cap, cur, T, hy, hg, hi, hpu, hh, hcap, hcm, hcz, hrs⟩
    · exact absurd h hne
    have hpu := hpu rfl
    have hflen := flatten_length hrs
    have hml : (rows.flatten.map dead1).length = rows.length * sz := by rw [List.length_map]; exact hflen
    have hglt : g < w'.heap.size := by
      rcases Nat.lt_or_ge g w'.heap.size with h | h
      · exact h
      · simp [Array.getElem?_eq_none h] at hh
    have hgs : ∀ k i u, G.imm k i = some u → k ≠ g := fun k i u hk => by have := cell_lt (hI.imm k i u hk); omega
    have hext' : Ext w G.imm w' (fun k i => if k = g then none else I' k i) := ⟨hext.heap, hext.size, fun k hk => by
      funext i
      have : k ≠ g := by omega
      simp only [this, if_false]; rw [hext.old k hk], fun k i u hk => by
      by_cases hkg : k = g
      · simp [hkg] at hk
      · simp only [hkg, if_false] at hk; exact hext.imm k i u hk, hext.calm⟩
    have hmax : rows.length ≤ maxLen := by
      subst hy
      cases hrep with
      | empty => simp [maxLen]
      | sl s c ht hcap' hlen => exact hlen
    have hle : rows.length * sz ≤ cur.size := by rw [hcz]; exact Nat.mul_le_mul_right _ hcap
    refine ⟨v, .sm g 0 rows.length cap, one g (rows.flatten.map dead1 ++ ((cur.toList.drop (rows.length * sz)).map AV.v)), ⟨fun k i => if k = g then none else I' k i, upd G.own g (some .obj)⟩, he,
      ⟨g, cap, _, rfl, hcap, ?_, rfl⟩, ⟨hext'.imm, fun b cells hb => ?_, fun b hb i => ?_, fun b o hb => ?_⟩, fun k i => ?_, ⟨hext.size, fun k hk _ => hext.heap k hk, fun k hk _ => hext'.old k hk, hext'.sub hI.imm, fun k hk ho => ?_, hext.calm⟩, ?_, trivial⟩
    · rw [List.length_drop, Array.length_toList]; omega
    · simp only [one, upd] at hb
      split at hb
      · rename_i hbg
        subst hbg
        cases hb
        refine ⟨by simp [upd], cur, T, hh, ?_, fun j x y hx hy => ?_⟩
        · simp only [List.length_append, List.length_map, List.length_drop, hflen, Array.length_toList]; omega
        · by_cases hj : j < rows.length * sz
          · rw [List.getElem?_append_left (by rw [hml]; exact hj)] at hx
            simp only [List.getElem?_map] at hx
            cases hz : rows.flatten[j]? with
            | none => simp [hz] at hx
            | some z =>
              simp [hz] at hx
              subst hx
              obtain ⟨r, h1, h2, h3⟩ := flatten_get hrs hz
              obtain ⟨u, hu1, hu2⟩ := hpu _ _ _ _ h1 h2
              rw [h3] at hu1
              rw [hy] at hu1; cases hu1
              exact ⟨hu2.dead, LiveOK.dead _ _⟩
          · rw [List.getElem?_append_right (by rw [hml]; omega), hml] at hx
            simp only [List.getElem?_map, List.getElem?_drop] at hx
            rw [show rows.length * sz + (j - rows.length * sz) = j by omega, Array.getElem?_toList, hy] at hx
            simp at hx
            subst hx
            exact ⟨.v _, trivial⟩
      · simp at hb
    · by_cases hbg : b = g
      · simp [hbg]
      · simp only [hbg, if_false]
        simp only [upd, hbg, if_false] at hb
        have := hI.own b _ hb
        rw [hext.old b this]
        exact hI.excl b hb i
    · by_cases hbg : b = g
      · subst hbg; exact hglt
      · simp only [upd, hbg, if_false] at hb
        exact Nat.lt_of_lt_of_le (hI.own b o hb) hext.size
    · simp only [upd]
      split
      · simp
      · exact hn k i
    · have : k ≠ g := by omega
      simp only [upd, this, if_false]; exact ho
    · subst hy
      exact .sm g 0 rows.length cap hcap hmax hcm
  cases q with
  | ok n w' =>
    cases n <;> simp only [NextUpon] at this ⊢
    · exact conv _ _ this
    · exact this.mono fun e w'' => conv e w''
  | halt x w' => exact this

/-- A function that changes nothing old, whatever else is one's own. -/
theorem MSpec.quiet {P : Program} {f : FuncId} {args : List AV} {R : AV → Prop} (H : Nat → Option (List AV)) (h : ASpec P f args R) : MSpec P f args H (fun r h' => R r ∧ h' = H) := by
  intro G w cargs hI hn ha
  have := h G.imm w cargs hI.imm ha
  generalize (callFunc f cargs.toArray).run P w = q at *
  have conv : ∀ en w', (∃ v r I', en = Ending.returned v ∧ R r ∧ Ext w G.imm w' I' ∧ Rep I' r v ∧ FreshOK w.heap.size I' w' r v) →
      ∃ v r h' G', en = Ending.returned v ∧ (R r ∧ h' = H) ∧ HRel h' G' w' ∧ NoSlot G' ∧ Turned G w G' w' ∧ Rep G'.imm r v ∧ HandOK (fun g => w.heap.size ≤ g ∨ G.own g ≠ none) G' w' r v := by
    rintro en w' ⟨v, r, I', he, hR, hext, hrep, hf⟩
    refine ⟨v, r, H, { G with imm := I' }, he, ⟨hR, rfl⟩, hI.ext hext, hn, ⟨hext.size, fun k hk _ => hext.heap k hk, fun k hk _ => hext.old k hk, hext.sub hI.imm, fun _ _ h => h, hext.calm⟩, hrep, ?_⟩
    have hno : ∀ g, w.heap.size ≤ g → G.own g = none := fun g hg => by
      cases hq : G.own g with
      | none => rfl
      | some o => have := hI.own g o hq; omega
    cases r with
    | sl tag rows =>
      cases tag with
      | live e s pu =>
        rcases hf with hf | ⟨g, cap, cur, T, hy, hg, hrest⟩
        · exact .inl hf
        · exact .inr ⟨g, cap, cur, T, hy, hno g hg, .inl hg, hrest⟩
      | full => exact hf
      | _ => trivial
    | ob m g o => exact ⟨hno g hf.1, .inl hf.1, hf.2⟩
    | _ => trivial
  cases q with
  | ok n w' =>
    cases n <;> simp only [NextUpon] at this ⊢
    · exact conv _ _ this
    · exact this.mono fun e w'' => conv e w''
  | halt x w' => exact this

/-- The right to write what is handed back is dropped. -/
theorem MSpec.dead {P : Program} {f : FuncId} {args : List AV} {h : Nat → Option (List AV)} {R : AV → (Nat → Option (List AV)) → Prop} (hm : MSpec P f args h R) : MSpec P f args h (fun r h' => ∃ r0, R r0 h' ∧ r = dead1 r0) := by
  intro G w cargs hI hn ha
  have := hm G w cargs hI hn ha
  generalize (callFunc f cargs.toArray).run P w = q at *
  have conv : ∀ en w', (∃ v r h' G', en = Ending.returned v ∧ R r h' ∧ HRel h' G' w' ∧ NoSlot G' ∧ Turned G w G' w' ∧ Rep G'.imm r v ∧ HandOK (fun g => w.heap.size ≤ g ∨ G.own g ≠ none) G' w' r v) →
      ∃ v r h' G', en = Ending.returned v ∧ (∃ r0, R r0 h' ∧ r = dead1 r0) ∧ HRel h' G' w' ∧ NoSlot G' ∧ Turned G w G' w' ∧ Rep G'.imm r v ∧ HandOK (fun g => w.heap.size ≤ g ∨ G.own g ≠ none) G' w' r v := by
    rintro en w' ⟨v, r, h', G', he, hR, h1, h2, h3, hrep, hf⟩
    refine ⟨v, dead1 r, h', G', he, ⟨r, hR, rfl⟩, h1, h2, h3, hrep.dead, ?_⟩
    cases r <;> trivial
  cases q with
  | ok n w' =>
    cases n <;> simp only [NextUpon] at this ⊢
    · exact conv _ _ this
    · exact this.mono fun e w'' => conv e w''
  | halt x w' => exact this

/-- rows in memory of one's own; or none at all -/
def OwnM (rows : List (List AV)) (sz : Nat) (r : AV) (h : Nat → Option (List AV)) : Prop :=
  (rows = [] ∧ r = .sl .no [] ∧ h = fun _ => none) ∨ ∃ (b cap : Nat) (cells : List AV), rows ≠ [] ∧ r = .sm b 0 rows.length cap ∧ h = one b cells ∧ rows.length ≤ cap ∧ cells.length = cap * sz ∧ cells.take (rows.length * sz) = rows.flatten.map dead1
theorem MSpec.own {P : Program} {f : FuncId} {args : List AV} {R : AV → Prop} {e sz : Nat} {rows : List (List AV)} (h : ASpec P f args R) (hs : ∀ r ∈ rows, r.length = sz) (h0 : rows = [] → ∀ r, R r → ∃ tag, r = .sl tag [])
    (h1 : rows ≠ [] → ∀ r, R r → r = .sl (.live e sz true) rows) : MSpec P f args (fun _ => none) (OwnM rows sz) := by
  by_cases hne : rows = []
  · refine ((MSpec.quiet (fun _ => none) h).dead).mono ?_
    rintro r h' ⟨r0, ⟨hR, rfl⟩, rfl⟩
    obtain ⟨tag, rfl⟩ := h0 hne r0 hR
    exact .inl ⟨hne, rfl, rfl⟩
  · refine (MSpec.thaw (h.mono (h1 hne)) hne).mono ?_
    rintro r h' ⟨b, cap, spare, rfl, hc, hsp, rfl⟩
    have hl : (rows.flatten.map dead1).length = rows.length * sz := by rw [List.length_map]; exact flatten_length hs
    refine .inr ⟨b, cap, _, hne, rfl, rfl, hc, ?_, ?_⟩
    · rw [List.length_append, hl, List.length_map]; omega
    · rw [← hl, List.take_left]

/-! ### Rows of rows in memory of one's own -/

/-- a row of two numbers and a list -/
structure GItem where
  a : Value
  d : Value
  rows : List (List AV)
def GItem.row (x : GItem) : List AV := [.v x.a, .v x.d, .sl .no x.rows]

def OwnAt (κ : Nat → Nat) (k : Nat) (rows : List (List AV)) (sz : Nat) (X : AV) (h : Nat → Option (List AV)) : Prop :=
  (rows = [] ∧ X = .sl .no []) ∨ ∃ (b cap : Nat) (cells : List AV), X = .sm b 0 rows.length cap ∧ κ b = k ∧ h b = some cells ∧ rows.length ≤ cap ∧ cells.length = cap * sz ∧ cells.take (rows.length * sz) = rows.flatten.map dead1

theorem OwnAt.frame {κ κ2 : Nat → Nat} {k : Nat} {rows : List (List AV)} {sz : Nat} {X : AV} {h h2 : Nat → Option (List AV)} (hx : OwnAt κ k rows sz X h) (hf : ∀ b c, h b = some c → κ b = k → h2 b = some c ∧ κ2 b = k) : OwnAt κ2 k rows sz X h2 := by
  rcases hx with hx | ⟨b, cap, cells, h1, h3, h4, h5⟩
  · exact .inl hx
  · exact .inr ⟨b, cap, cells, h1, (hf b _ h4 h3).2, (hf b _ h4 h3).1, h5⟩
theorem OwnAt.cell {rows : List (List AV)} {sz : Nat} {cells : List AV} (hs : ∀ r ∈ rows, r.length = sz) (ht : cells.take (rows.length * sz) = rows.flatten.map dead1) {i j : Nat} {r : List AV} {x : AV} (hi : rows[i]? = some r) (hj : r[j]? = some x) :
    cells[i * sz + j]? = some (dead1 x) := by
  have h1 := getElem?_flatten_rows hs hi hj
  have h2 : (cells.take (rows.length * sz))[i * sz + j]? = some (dead1 x) := by rw [ht, List.getElem?_map, h1]; rfl
  rw [List.getElem?_take] at h2
  split at h2
  · exact h2
  · simp at h2
theorem OwnAt.froz {κ : Nat → Nat} {k : Nat} {rows : List (List AV)} {sz : Nat} {X : AV} {h : Nat → Option (List AV)} (hx : OwnAt κ k rows sz X h) (hs : ∀ r ∈ rows, r.length = sz) (hk : ∀ r ∈ rows, ∀ x ∈ r, cellAV x = true ∧ dead1 x = x) : Froz h X (.sl .no rows) := by
  rcases hx with ⟨h1, rfl⟩ | ⟨b, cap, cells, rfl, h3, h4, h5, h6, h7⟩
  · subst h1; exact .same _
  · have hg : ∀ i j, i < rows.length → j < sz → cells[i * sz + j]? = some (((rows.getD i []).getD j .mn)) := fun i j hi hj => by
      have hr : rows[i]? = some rows[i] := by simp [hi]
      have hj' : j < rows[i].length := by rw [hs _ (List.getElem_mem hi)]; exact hj
      have hx : rows[i][j]? = some rows[i][j] := by simp [hj']
      rw [OwnAt.cell hs h7 hr hx, (hk _ (List.getElem_mem hi) _ (List.getElem_mem hj')).2]
      simp [List.getD, hr, hx]
    refine .sm (sz := sz) (cells := cells) (fun i j => (rows.getD i []).getD j .mn) h4 rfl hs (fun r hr x hx => (hk r hr x hx).1) (fun i j hi hj => by rw [Nat.zero_add]; exact hg i j hi hj) ?_
    intro i r j x hr hx
    have : (rows.getD i []).getD j .mn = x := by simp [List.getD, hr, hx]
    rw [this]; exact .same _

/-- rows of one's own whose lists are one's own, up to some place -/
def DeepG (κ : Nat → Nat) (h : Nat → Option (List AV)) (k1 k2 sz : Nat) (X : AV) (l : List GItem) (m : Nat) : Prop :=
  (l = [] ∧ X = .sl .no []) ∨ ∃ (b cap : Nat) (cells : List AV), X = .sm b 0 l.length cap ∧ κ b = k1 ∧ h b = some cells ∧ l.length ≤ cap ∧ cells.length = cap * 3 ∧
    ∀ i x, l[i]? = some x → cells[i * 3]? = some (.v x.a) ∧ cells[i * 3 + 1]? = some (.v x.d) ∧ ∃ Y, cells[i * 3 + 2]? = some Y ∧ ((m ≤ i ∧ Y = .sl .no x.rows) ∨ (i < m ∧ OwnAt κ k2 x.rows sz Y h))

theorem DeepG.start {κ : Nat → Nat} {h : Nat → Option (List AV)} {k1 k2 sz : Nat} {X : AV} {l : List GItem} (hx : OwnAt κ k1 (l.map GItem.row) 3 X h) : DeepG κ h k1 k2 sz X l 0 := by
  rcases hx with ⟨h1, h2⟩ | ⟨b, cap, cells, h1, h2, h3, h4, h5, h6⟩
  · exact .inl ⟨by simpa using h1, h2⟩
  · have hs : ∀ r ∈ l.map GItem.row, r.length = 3 := fun r hr => by obtain ⟨x, _, rfl⟩ := List.mem_map.1 hr; rfl
    refine .inr ⟨b, cap, cells, by simpa using h1, h2, h3, by simpa using h4, h5, fun i x hi => ?_⟩
    have hr : (l.map GItem.row)[i]? = some x.row := by simp [hi]
    exact ⟨OwnAt.cell hs h6 (j := 0) hr rfl, OwnAt.cell hs h6 (j := 1) hr rfl, _, OwnAt.cell hs h6 (j := 2) hr rfl, .inl ⟨Nat.zero_le _, rfl⟩⟩
theorem DeepG.frame {κ κ2 : Nat → Nat} {h h2 : Nat → Option (List AV)} {k1 k2 sz : Nat} {X : AV} {l : List GItem} {m : Nat} (hx : DeepG κ h k1 k2 sz X l m) (hf : ∀ b c, h b = some c → κ b = k1 ∨ κ b = k2 → h2 b = some c ∧ κ2 b = κ b) : DeepG κ2 h2 k1 k2 sz X l m := by
  rcases hx with hx | ⟨b, cap, cells, q1, q2, q3, q4, q5, q6⟩
  · exact .inl hx
  · refine .inr ⟨b, cap, cells, q1, (hf b _ q3 (.inl q2)).2.trans q2, (hf b _ q3 (.inl q2)).1, q4, q5, fun i x hi => ?_⟩
    obtain ⟨e1, e2, Y, e3, e4⟩ := q6 i x hi
    refine ⟨e1, e2, Y, e3, ?_⟩
    rcases e4 with e4 | ⟨e4, e5⟩
    · exact .inl e4
    · exact .inr ⟨e4, e5.frame fun b c hb hk => ⟨(hf b c hb (.inr hk)).1, (hf b c hb (.inr hk)).2.trans hk⟩⟩
theorem DeepG.step {κ κ2 : Nat → Nat} {h H : Nat → Option (List AV)} {k1 k2 sz b cap : Nat} {l : List GItem} {m : Nat} {cells : List AV} {x : GItem} {r : AV} (hne : k1 ≠ k2) (hm : l[m]? = some x)
    (hx : DeepG κ h k1 k2 sz (.sm b 0 l.length cap) l m) (hb : h b = some cells) (hH : ∀ b' c, b' ≠ b → h b' = some c → κ b' = k2 → H b' = some c ∧ κ2 b' = k2) (hHb : H b = some (cells.set (m * 3 + 2) r)) (hκ : κ2 b = k1) (hr : OwnAt κ2 k2 x.rows sz r H) :
    DeepG κ2 H k1 k2 sz (.sm b 0 l.length cap) l (m + 1) := by
  rcases hx with ⟨_, hx⟩ | ⟨b', cap', cells', q1, q2, q3, q4, q5, q6⟩
  · cases hx
  · cases q1
    rw [hb] at q3
    cases q3
    have hml : m < l.length := (List.getElem?_eq_some_iff.1 hm).1
    refine .inr ⟨b, cap, _, rfl, hκ, hHb, q4, by rw [List.length_set]; exact q5, fun i y hi => ?_⟩
    obtain ⟨e1, e2, Y, e3, e4⟩ := q6 i y hi
    refine ⟨by rw [List.getElem?_set_ne (by omega)]; exact e1, by rw [List.getElem?_set_ne (by omega)]; exact e2, ?_⟩
    by_cases hmi : i = m
    · subst hmi
      rw [hm] at hi
      cases hi
      exact ⟨r, by rw [List.getElem?_set_self (by omega)], .inr ⟨by omega, hr⟩⟩
    · refine ⟨Y, by rw [List.getElem?_set_ne (by omega)]; exact e3, ?_⟩
      rcases e4 with ⟨e4, e5⟩ | ⟨e4, e5⟩
      · exact .inl ⟨by omega, e5⟩
      · refine .inr ⟨by omega, ?_⟩
        rcases e5 with e5 | ⟨b', cap', cells', f1, f2, f3, f4⟩
        · exact .inl e5
        · have hbb : b' ≠ b := by rintro rfl; exact hne (q2.symm.trans f2)
          exact .inr ⟨b', cap', cells', f1, (hH b' _ hbb f3 f2).2, (hH b' _ hbb f3 f2).1, f4⟩
theorem DeepG.froz {κ : Nat → Nat} {h : Nat → Option (List AV)} {k1 k2 sz : Nat} {X : AV} {l : List GItem} (hx : DeepG κ h k1 k2 sz X l l.length) (hs : ∀ x ∈ l, ∀ r ∈ x.rows, r.length = sz) (hk : ∀ x ∈ l, ∀ r ∈ x.rows, ∀ y ∈ r, cellAV y = true ∧ dead1 y = y)
    (hv : ∀ x ∈ l, x.a.oneCell' = true ∧ x.d.oneCell' = true) : Froz h X (.sl .no (l.map GItem.row)) := by
  rcases hx with ⟨h1, rfl⟩ | ⟨b, cap, cells, rfl, q2, q3, q4, q5, q6⟩
  · subst h1; exact .same _
  · have hle : ∀ i x, l[i]? = some x → i < l.length := fun i x h => (List.getElem?_eq_some_iff.1 h).1
    refine .sm (sz := 3) (cells := cells) (fun i j => cells.getD (i * 3 + j) .mn) q3 (by simp) (fun r hr => by obtain ⟨x, _, rfl⟩ := List.mem_map.1 hr; rfl) (fun r hr y hy => ?_) (fun i j hi hj => ?_) ?_
    · obtain ⟨x, hx, rfl⟩ := List.mem_map.1 hr
      simp only [GItem.row, List.mem_cons, List.not_mem_nil, or_false] at hy
      rcases hy with rfl | rfl | rfl
      · exact (hv x hx).1
      · exact (hv x hx).2
      · rfl
    · have : i * 3 + j < cells.length := by omega
      simp [List.getD, this]
    · intro i r j y hr hy
      simp only [List.getElem?_map, Option.map_eq_some_iff] at hr
      obtain ⟨x, hx, rfl⟩ := hr
      have hxm := List.mem_of_getElem? hx
      obtain ⟨e1, e2, Y, e3, e4⟩ := q6 i x hx
      match j with
      | 0 => simp [GItem.row] at hy; subst hy; simp only [List.getD, Nat.add_zero, e1]; exact .same _
      | 1 => simp [GItem.row] at hy; subst hy; simp only [List.getD, e2]; exact .same _
      | 2 =>
        simp [GItem.row] at hy; subst hy; simp only [List.getD, e3, Option.getD_some]
        rcases e4 with ⟨e4, _⟩ | ⟨_, e5⟩
        · have := hle i x hx; omega
        · exact e5.froz (hs x hxm) (hk x hxm)
      | j + 3 => simp [GItem.row] at hy

/-- a slice of one's own, or none -/
def OwnV (x : AV) : Prop := x = .sl .no [] ∨ ∃ b o n c, x = .sm b o n c
theorem OwnM.v {rows : List (List AV)} {sz : Nat} {r : AV} {h : Nat → Option (List AV)} (hr : OwnM rows sz r h) : OwnV r := by
  rcases hr with ⟨_, rfl, _⟩ | ⟨_, _, _, _, rfl, _⟩
  · exact .inl rfl
  · exact .inr ⟨_, _, _, _, rfl⟩
theorem OwnV.dead {x : AV} (h : OwnV x) : dead1 x = x := by rcases h with rfl | ⟨_, _, _, _, rfl⟩ <;> rfl
theorem OwnM.at {κ : Nat → Nat} {k : Nat} {rows : List (List AV)} {sz : Nat} {r : AV} {h H : Nat → Option (List AV)} (hr : OwnM rows sz r h) (hH : ∀ b c, h b = some c → H b = some c ∧ κ b = k) : OwnAt κ k rows sz r H := by
  rcases hr with ⟨h1, h2, _⟩ | ⟨b, cap, cells, h1, h2, rfl, h4⟩
  · exact .inl ⟨h1, h2⟩
  · have := hH b cells (by simp [one, upd])
    exact .inr ⟨b, cap, cells, h2, this.2, this.1, h4⟩
theorem storeK.own {n : Nat × Bool} {b off : Nat} {x : AV} {ty : Tmp} {s : ASt} {k : ASt → Prop} (hx : OwnV x) (ht : s.t ty = x)
    (hk : @forceL (s.h b) ⟨fun cells => (1 = n.1 ∧ off + 1 ≤ cells.length) ∧ @forceL (some (overlay cells off [x])) ⟨fun z => k { s with h := upd s.h b (some z) }⟩⟩) : @storeK (some n) (.ptr b off) x (.tmp ty) s ⟨k⟩ := by
  rcases hx with rfl | ⟨b1, o1, n1, c1, rfl⟩
  · rw [storeK_sl]
    have : s.set ty (.sl .no []) = s := by
      unfold ASt.set
      split
      · have : upd s.t ty (.sl .no []) = s.t := by funext i; simp only [upd]; split <;> simp_all
        rw [this]
      · rfl
    rw [this]; exact hk
  · rw [storeK_sm]
    exact hk
theorem OwnAt.v {κ : Nat → Nat} {k : Nat} {rows : List (List AV)} {sz : Nat} {r : AV} {h : Nat → Option (List AV)} (hr : OwnAt κ k rows sz r h) : OwnV r := by
  rcases hr with ⟨_, rfl⟩ | ⟨_, _, _, rfl, _⟩
  · exact .inl rfl
  · exact .inr ⟨_, _, _, _, rfl⟩
theorem DeepG.v {κ : Nat → Nat} {h : Nat → Option (List AV)} {k1 k2 sz m : Nat} {X : AV} {l : List GItem} (hr : DeepG κ h k1 k2 sz X l m) : OwnV X := by
  rcases hr with ⟨_, rfl⟩ | ⟨_, _, _, rfl, _⟩
  · exact .inl rfl
  · exact .inr ⟨_, _, _, _, rfl⟩
theorem mergeH_self (h : Nat → Option (List AV)) : mergeH h h h = h := by
  funext b; simp only [mergeH]; cases hb : h b <;> simp
theorem SubH.self (h : Nat → Option (List AV)) : SubH h h := SubH.of fun _ _ h => h
/-- all of one's memory is lent for a call -/
theorem CallK.lendAll {P : Program} {g : FuncId} {args args' : List AV} {s : ASt} {d : Option Tmp} {K : ASt → Prop} {nx : Hid (List AV)} {R : AV → Prop} (hf : FrozL s.h args args') (h : ASpec P g args' R) (hfl : ∀ r, R r → flat2 r = true)
    (hk : ∀ r, R r → @force r ⟨fun r => K (s.put d r)⟩) : @CallK P g args s d nx ⟨K⟩ :=
  CallK.m (MSpec.lendAll hf h hfl) (SubH.self _) fun r h' ⟨hr, e⟩ => by subst e; rw [mergeH_self]; exact hk r hr
theorem Froz.mono {h h2 : Nat → Option (List AV)} (hh : ∀ b c, h b = some c → h2 b = some c) {x y : AV} (hf : Froz h x y) : Froz h2 x y := by
  induction hf with
  | same x => exact .same x
  | dead x => exact .dead x
  | sm g hb hn hs hk hg hc ih => exact .sm g (hh _ _ hb) hn hs hk hg ih
  | agg hl hc ih => exact .agg hl ih
  | tup hl hc ih => exact .tup hl ih
theorem FrozL.mono {h h2 : Nat → Option (List AV)} (hh : ∀ b c, h b = some c → h2 b = some c) {xs ys : List AV} (hf : FrozL h xs ys) : FrozL h2 xs ys := ⟨hf.1, fun j x y hx hy => (hf.2 j x y hx hy).mono hh⟩
end Go.Rw
