/- Parts of the proof: what is used by the law. No condition. -/
import Derived.Test.YtjbbfiagijjdoaaGreatRwV
import Derived.Test.YtjbbfiagijjdoaaGreatRwU
set_option linter.unusedSimpArgs false
set_option linter.unusedVariables false
/- Own memory lent, as rows, to a call that may stand anywhere in a drawn order. No condition. -/
set_option linter.unusedSimpArgs false
set_option linter.unusedVariables false
namespace Go.Rw

/-- A call whose arguments' memory is lent, as rows, for the call. -/
theorem lend_callH {P : Program} {h : Nat → Option (List AV)} {G : Ghost} {w : World} (hrel : HRel h G w) {b sz : Nat} {cells : List AV} {rows : List (List AV)} (hb : h b = some cells) (hc : chunks cells rows sz) {g : FuncId} {args : List AV} {cargs : List Value} (ha : Reps G.imm args cargs) {R : AV → Prop}
    (hspec : ASpec P g (args.map (Rw.frz2 b rows)) R) (hfl : ∀ r, R r → Rw.flat2 r = true) :
    NextUpon P (fun e w' => ∃ v q I', e = .returned v ∧ R q ∧ Ext w G.imm w' I' ∧ Rep I' q v ∧ FreshOK w.heap.size I' w' q v) ((callFunc g cargs.toArray).run P w) := by
  obtain ⟨ho, arr, T, hh, hsz, hcells⟩ := hrel.obj b cells hb
  have hex := hrel.excl b ho
  have hsub : Sub G.imm (fun k i => if k = b then (if i < rows.length * sz then arr[i]? else none) else G.imm k i) := fun k i v hk => by
    by_cases hkb : k = b
    · subst hkb; rw [hex i] at hk; simp at hk
    · simp only [hkb, if_false]; exact hk
  have hin := chunks_in (b := b) hc hsz (fun j x y hx hy => (hcells j x y hx hy).1) hsub (fun i hi => by simp [hi])
  have hI : ∀ k i v, (fun k i => if k = b then (if i < rows.length * sz then arr[i]? else none) else G.imm k i : Imm) k i = some v → w.cell? ⟨k, i, none⟩ = some v := fun k i v hk => by
    simp only at hk
    split at hk
    · rename_i hkb; subst hkb
      split at hk
      · simp [World.cell?, hh, hk]
      · simp at hk
    · exact hrel.imm k i v hk
  have hargs : Reps (fun k i => if k = b then (if i < rows.length * sz then arr[i]? else none) else G.imm k i) (args.map (Rw.frz2 b rows)) cargs := by
    refine ⟨by simp [ha.1], fun j x y hx hy => ?_⟩
    simp only [List.getElem?_map] at hx
    cases hz : args[j]? with
    | none => simp [hz] at hx
    | some z => simp [hz] at hx; subst hx; exact (ha.2 j z y hz hy).frz2 hsub hin
  have := hspec _ w cargs hI hargs
  generalize (callFunc g cargs.toArray).run P w = q at *
  have conv : ∀ e w', (∃ v r I', e = .returned v ∧ R r ∧ Ext w (fun k i => if k = b then (if i < rows.length * sz then arr[i]? else none) else G.imm k i) w' I' ∧ Rep I' r v ∧ FreshOK w.heap.size I' w' r v) →
      ∃ v r I', e = Ending.returned v ∧ R r ∧ Ext w G.imm w' I' ∧ Rep I' r v ∧ FreshOK w.heap.size I' w' r v := by
    rintro e w' ⟨v, x, I', he, hR, hext, hrep, hfr⟩
    refine ⟨v, x, fun k i => if k = b then none else I' k i, he, hR, ⟨hext.heap, hext.size, fun k hk => ?_, fun k i v hk => ?_, hext.calm⟩, hrep.flat2 (hfl x hR), FreshOK.flat2 (hfl x hR)⟩
    · funext i
      by_cases hkb : k = b
      · subst hkb; simp [hex i]
      · simp only [hkb, if_false]; rw [hext.old k hk]; simp [hkb]
    · by_cases hkb : k = b
      · simp [hkb] at hk
      · simp only [hkb, if_false] at hk; exact hext.imm k i v hk
  cases q with
  | ok n w' =>
    cases n <;> simp only [NextUpon] at this ⊢
    · exact conv _ _ this
    · exact this.mono fun e w'' => conv e w''
  | halt x w' => exact this

theorem MSpec.lend {P : Program} {g : FuncId} {args : List AV} {b sz : Nat} {cells : List AV} {rows : List (List AV)} {R : AV → Prop} (hc : chunks cells rows sz) (h : ASpec P g (args.map (Rw.frz2 b rows)) R) (hfl : ∀ r, R r → Rw.flat2 r = true) :
    MSpec P g args (one b cells) (fun r h' => R r ∧ h' = one b cells) := by
  intro G w cargs hI hn ha
  have := lend_callH hI (b := b) (cells := cells) (by simp [one]) hc ha h hfl
  generalize (callFunc g cargs.toArray).run P w = q at *
  have conv : ∀ e w', (∃ v q I', e = Ending.returned v ∧ R q ∧ Ext w G.imm w' I' ∧ Rep I' q v ∧ FreshOK w.heap.size I' w' q v) →
      ∃ v r h' G', e = Ending.returned v ∧ (R r ∧ h' = one b cells) ∧ HRel h' G' w' ∧ NoSlot G' ∧ Turned G w G' w' ∧ Rep G'.imm r v ∧ HandOK (fun g => w.heap.size ≤ g ∨ G.own g ≠ none) G' w' r v := by
    rintro e w' ⟨v, x, I', he, hR, hext, hrep, hfr⟩
    refine ⟨v, x, _, { G with imm := I' }, he, ⟨hR, rfl⟩, hI.ext hext, hn, ⟨hext.size, fun k hk _ => hext.heap k hk, fun k hk _ => hext.old k hk, hext.sub hI.imm, fun _ _ h => h, hext.calm⟩, hrep, ?_⟩
    have hf := hfl x hR
    cases x with
    | sl tag rows => simp [Rw.flat2, Rw.flat1, Rw.flat0] at hf
    | _ => trivial
  cases q with
  | ok n w' =>
    cases n <;> simp only [NextUpon] at this ⊢
    · exact conv _ _ this
    · exact this.mono fun e w'' => conv e w''
  | halt x w' => exact this
end Go.Rw
