/- Parts of the proof: what is used by the law. No condition. -/
import Derived.Test.YtjbbfiagijjdoaaGreatRwH
set_option linter.unusedSimpArgs false
set_option linter.unusedVariables false
/- Local variables in memory: made, written, read; the right to write handed on. No condition. -/
set_option linter.unusedSimpArgs false
set_option linter.unusedVariables false
namespace Go.Rw
section
variable {B : Nat} {F : Nat → Prop} {w0 : World} {I0 : Imm} {s : ASt} {G : Ghost} {a : Act} {w : World} {P : Program}

theorem killAt_obj (s : ASt) (p0 : Own) (b : Nat) (cells : List AV) (hb : (s.killAt p0).h b = some cells) : ∃ cells0, s.h b = some cells0 ∧ cells.length = cells0.length ∧
      ∀ (j : Nat) (x : AV), cells[j]? = some x → ∃ x0, cells0[j]? = some x0 ∧ (x = x0 ∨ x = dead1 x0) := by
  cases p0 with
  | obj => exact ⟨cells, hb, rfl, fun j x hx => ⟨x, hx, .inl rfl⟩⟩
  | slot i =>
    have : (s.killAt (.slot i)).h = s.h := by simp only [ASt.killAt, ASt.kill, ASt.set]; split <;> rfl
    rw [this] at hb
    exact ⟨cells, hb, rfl, fun j x hx => ⟨x, hx, .inl rfl⟩⟩
  | cell b0 j0 =>
    rw [killAt_h_cell] at hb
    simp only [upd] at hb
    split at hb
    · rename_i hbb
      subst hbb
      cases hc : s.h b with
      | none => simp [hc] at hb
      | some cells0 =>
        simp [hc] at hb
        subst hb
        refine ⟨cells0, rfl, by simp, fun j x hx => ?_⟩
        rw [List.getElem?_modify] at hx
        cases hz : cells0[j]? with
        | none => simp [hz] at hx
        | some x0 =>
          simp only [hz, Option.map_eq_map, Option.map_some, Option.some.injEq] at hx
          refine ⟨x0, rfl, ?_⟩
          split at hx
          · exact .inr hx.symm
          · exact .inl hx.symm
    · exact ⟨cells, hb, rfl, fun j x hx => ⟨x, hx, .inl rfl⟩⟩

theorem Rel.killAt (r : Rel B F w0 I0 s G a w) (p0 : Own) : Rel B F w0 I0 (s.killAt p0) G a w := by
  cases p0 with
  | slot d => exact r.kill d
  | obj => exact r
  | cell b j =>
    refine ⟨⟨r.hrel.imm, fun b' cells hb => ?_, r.hrel.excl, r.hrel.own⟩, r.size, r.tmps, r.defers, r.below, r.base, r.ownB, r.immB, r.sub0, r.calm⟩
    obtain ⟨cells0, hb0, hl0, hx0⟩ := killAt_obj s _ b' cells hb
    obtain ⟨h1, arr, T, h2, h3, h4⟩ := r.hrel.obj b' cells0 hb0
    refine ⟨h1, arr, T, h2, by rw [h3, hl0], fun j x y hx hy => ?_⟩
    obtain ⟨x0, hx0', rfl | rfl⟩ := hx0 j x hx
    · exact h4 j x y hx0' hy
    · exact ⟨(h4 j x0 y hx0' hy).1.dead, LiveOK.dead _ _⟩

/-- A value is taken from its place, and the right to write goes with it. -/
theorem Rel.take (r : Rel B F w0 I0 s G a w) (p0 o : Own) (hp0 : p0 ≠ .obj) (ho : o ≠ .obj) {x : AV} {y : Value} (hx : Rep G.imm x y) (hl : LiveOK G w p0 x y) :
    ∃ G', Rel B F w0 I0 (s.killAt p0) G' a w ∧ Rep G'.imm x y ∧ LiveOK G' w o x y ∧ G'.imm = G.imm ∧ (∀ b, G.own b = some .obj → G'.own b = some .obj) := by
  have keep : LiveOK G w o x y → ∃ G', Rel B F w0 I0 (s.killAt p0) G' a w ∧ Rep G'.imm x y ∧ LiveOK G' w o x y ∧ G'.imm = G.imm ∧ (∀ b, G.own b = some .obj → G'.own b = some .obj) :=
    fun h => ⟨G, r.killAt p0, hx, h, rfl, fun _ h => h⟩
  cases x with
  | sl tag rows =>
    cases tag with
    | live e sz pu =>
      rcases hl with hl | ⟨g, cap, cur, T, hy, hown, hi, hpu, hh, hc⟩
      · exact keep (.inl hl)
      · have hr := r.turn p0 o g w G.imm ho hp0 (Sub.refl _) (fun _ _ _ => rfl) (Nat.le_refl _) (fun _ _ _ => rfl) (.inl hown) (r.hrel.own g _ hown) r.hrel.imm (Calm.refl w)
        refine ⟨_, hr, hx, .inr ⟨g, cap, cur, T, hy, by simp [upd], hi, hpu, hh, hc⟩, rfl, fun b hb => ?_⟩
        simp only [upd]
        split
        · rename_i h
          subst h
          rw [hown] at hb
          injection hb with hb
          exact absurd hb hp0
        · exact hb
    | full => exact keep hl
    | _ => exact keep trivial
  | ob v g ob =>
    obtain ⟨hown, hh⟩ := hl
    have hr := r.turn p0 o g w G.imm ho hp0 (Sub.refl _) (fun _ _ _ => rfl) (Nat.le_refl _) (fun _ _ _ => rfl) (.inl hown) (r.hrel.own g _ hown) r.hrel.imm (Calm.refl w)
    refine ⟨_, hr, hx, ⟨by simp [upd], hh⟩, rfl, fun b hb => ?_⟩
    simp only [upd]
    split
    · rename_i h
      subst h
      rw [hown] at hb
      injection hb with hb
      exact absurd hb hp0
    · exact hb
  | _ => exact keep trivial

/-- A new object. -/
theorem Rel.newObj (r : Rel B F w0 I0 s G a w) {w1 : World} (hw : w1.heap = w.heap) (hk : Calm w w1) (cells : List AV) (arr : Array Value) (T : TypeId) (hc : CR G.imm cells arr)
    (hd : ∀ x ∈ cells, dead1 x = x ∨ x = .sl .nil []) :
    s.h w.heap.size = none ∧ ∃ G', Rel B F w0 I0 { s with h := upd s.h w.heap.size (some cells) } G' a (w1.alloc (.cells arr T)) ∧ G'.imm = G.imm := by
  obtain ⟨h1, h2, h3⟩ := heap_push hw (.cells arr T)
  have hnone : s.h w.heap.size = none := by
    cases hb : s.h w.heap.size with
    | none => rfl
    | some cs => obtain ⟨ho, _⟩ := r.hrel.obj _ _ hb; have := r.hrel.own _ _ ho; omega
  have hlt : ∀ b o, G.own b = some o → b ≠ w.heap.size := fun b o h => by have := r.hrel.own b o h; omega
  have hil : ∀ b i v, G.imm b i = some v → b ≠ w.heap.size := fun b i v h => by have := cell_lt (r.hrel.imm b i v h); omega
  have live : ∀ (p : Own) (x : AV) (y : Value), LiveOK G w p x y → LiveOK { G with own := upd G.own w.heap.size (some .obj) } (w1.alloc (.cells arr T)) p x y := by
    intro p x y h
    cases x with
    | sl tag rows =>
      cases tag with
      | live e sz pu =>
        rcases h with h | ⟨k, cap, cur, T, hy, ho, hi, hpu, hh, hcc⟩
        · exact .inl h
        · have hk := hlt k _ ho
          exact .inr ⟨k, cap, cur, T, hy, by simp [upd, hk, ho], hi, hpu, by rw [h1 k (r.hrel.own k _ ho)]; exact hh, hcc⟩
      | full => exact h
      | _ => trivial
    | ob v k ob =>
      obtain ⟨ho, hh⟩ := h
      exact ⟨by simp [upd, hlt k _ ho, ho], by rw [h1 k (r.hrel.own k _ ho)]; exact hh⟩
    | _ => trivial
  refine ⟨hnone, { G with own := upd G.own w.heap.size (some .obj) }, ?_, rfl⟩
  refine ⟨⟨fun b i v h => ?_, fun b cs hb => ?_, fun b ho i => ?_, fun b o ho => ?_⟩, r.size, fun i => ⟨(r.tmps i).1, live _ _ _ (r.tmps i).2⟩, r.defers, fun b hb hF => ?_, by have := r.base; omega, fun b o ho => ?_, r.immB, r.sub0, r.calm.trans (hk.trans (Calm.alloc _ _ _))⟩
  · have := r.hrel.imm b i v h
    rw [cell_congr (h1 b (cell_lt this))]; exact this
  · simp only [upd] at hb
    split at hb
    · rename_i hbs
      subst hbs
      obtain rfl := Option.some.inj hb
      refine ⟨by simp [upd], arr, T, h2, hc.1.symm, fun j x y hx hy => ⟨hc.2 j x y hx hy, (by rcases hd x (List.mem_of_getElem? hx) with h | rfl; exact LiveOK.of_dead h; trivial)⟩⟩
    · obtain ⟨ho, arr', T', g1, g2, g3⟩ := r.hrel.obj b cs hb
      exact ⟨by simp [upd, hlt b _ ho, ho], arr', T', by rw [h1 b (r.hrel.own b _ ho)]; exact g1, g2, fun j x y hx hy => ⟨(g3 j x y hx hy).1, live _ _ _ (g3 j x y hx hy).2⟩⟩
  · simp only [upd] at ho
    split at ho
    · rename_i hbs
      cases hi : G.imm b i with
      | none => rfl
      | some v => exact absurd hbs (hil b i v hi)
    · exact r.hrel.excl b ho i
  · simp only [upd] at ho
    split at ho
    · omega
    · have := r.hrel.own b o ho; omega
  · exact (h1 b (Nat.lt_of_lt_of_le hb r.base)).trans (r.below b hb hF)
  · simp only [upd] at ho
    split at ho
    · have := r.base; exact .inl (by omega)
    · exact r.ownB b o ho

/-- An object is written. -/
theorem Rel.storeObj (r : Rel B F w0 I0 s G a w) {b : Nat} {cells cs : List AV} {ys : Array Value} (hb : s.h b = some cells) (off : Nat) (hc : CR G.imm cs ys)
    (hle : off + cs.length ≤ cells.length) (hlive : ∀ (j : Nat) (x : AV) (y : Value), cs[j]? = some x → ys[j]? = some y → LiveOK G w (.cell b (off + j)) x y) {arr : Array Value} {T : TypeId}
    (hh : w.heap[b]? = some (.cells arr T (0, 0))) :
    Rel B F w0 I0 { s with h := upd s.h b (some (overlay cells off cs)) } G a (w.setRow b (arr.toList.take off ++ ys.toList ++ arr.toList.drop (off + ys.size)).toArray) := by
  obtain ⟨ho, arr', T', g1, g2, g3⟩ := r.hrel.obj b cells hb
  obtain ⟨rfl, rfl⟩ : arr = arr' ∧ T = T' := by rw [hh] at g1; injection g1 with g1; injection g1 with e1 e2; exact ⟨e1, e2⟩
  have hother : ∀ k, k ≠ b → (w.setRow b (arr.toList.take off ++ ys.toList ++ arr.toList.drop (off + ys.size)).toArray).heap[k]? = w.heap[k]? := fun k hk => setRow_other w b k _ hk
  have hsame := heap_setRow w b arr T (arr.toList.take off ++ ys.toList ++ arr.toList.drop (off + ys.size)).toArray hh
  have hne : ∀ k o, G.own k = some o → o ≠ .obj → k ≠ b := by
    rintro k o h1 h2 rfl
    rw [ho] at h1; injection h1 with h1; exact h2 h1.symm
  have live : ∀ (p : Own) (x : AV) (y : Value), p ≠ .obj → LiveOK G w p x y → LiveOK G (w.setRow b (arr.toList.take off ++ ys.toList ++ arr.toList.drop (off + ys.size)).toArray) p x y := by
    intro p x y hp h
    cases x with
    | sl tag rows =>
      cases tag with
      | live e sz pu =>
        rcases h with h | ⟨k, cap, cur, T, hy, ho', hi, hpu, hh', hcc⟩
        · exact .inl h
        · exact .inr ⟨k, cap, cur, T, hy, ho', hi, hpu, by rw [hother k (hne k _ ho' hp)]; exact hh', hcc⟩
      | full => exact h
      | _ => trivial
    | ob v k ob =>
      obtain ⟨ho', hh'⟩ := h
      exact ⟨ho', by rw [hother k (hne k _ ho' hp)]; exact hh'⟩
    | _ => trivial
  have hsz : (w.setRow b (arr.toList.take off ++ ys.toList ++ arr.toList.drop (off + ys.size)).toArray).heap.size = w.heap.size := by simp
  refine ⟨⟨fun k i v h => ?_, fun k cs' hk => ?_, r.hrel.excl, fun k o h => by rw [hsz]; exact r.hrel.own k o h⟩, r.size, fun i => ⟨(r.tmps i).1, live _ _ _ (by simp) (r.tmps i).2⟩, r.defers, fun k hk hF => ?_, by rw [hsz]; exact r.base, r.ownB, r.immB, r.sub0, r.calm.trans (Calm.setRow w b arr T _ hh)⟩
  · have hkb : k ≠ b := by rintro rfl; rw [r.hrel.excl k ho i] at h; simp at h
    rw [cell_congr (hother k hkb)]; exact r.hrel.imm k i v h
  · simp only [upd] at hk
    split at hk
    · rename_i hkb
      subst hkb
      obtain rfl := Option.some.inj hk
      have hyl : ys.size = cs.length := hc.1.symm
      refine ⟨ho, _, T, hsame, by simp [overlay]; omega, fun j x y hx hy => ?_⟩
      simp only [List.getElem?_toArray] at hy
      simp only [overlay, List.getElem?_append, List.length_append, List.length_take, List.getElem?_take, List.getElem?_drop, Array.length_toList] at hx hy
      have m1 : min off cells.length = off := by omega
      have m2 : min off arr.size = off := by omega
      simp only [m1] at hx
      simp only [m2, hyl] at hy
      by_cases ha : j < off
      · have hb' : j < off + cs.length := by omega
        simp only [hb', ha, if_true] at hx hy
        obtain ⟨q1, q2⟩ := g3 j x y hx (by simpa using hy)
        exact ⟨q1, live _ _ _ (by simp) q2⟩
      · by_cases hb' : j < off + cs.length
        · simp only [hb', ha, if_true, if_false] at hx hy
          have hy' : ys[j - off]? = some y := by simpa using hy
          have e : off + (j - off) = j := by omega
          have := hlive (j - off) x y hx hy'
          rw [e] at this
          exact ⟨hc.2 (j - off) x y hx hy', live _ _ _ (by simp) this⟩
        · simp only [hb', if_false] at hx hy
          have e : off + cs.length + (j - (off + cs.length)) = j := by omega
          rw [e] at hx hy
          obtain ⟨q1, q2⟩ := g3 j x y hx (by simpa using hy)
          exact ⟨q1, live _ _ _ (by simp) q2⟩
    · rename_i hkb
      obtain ⟨q0, arr2, T2, q1, q2, q3⟩ := r.hrel.obj k cs' hk
      exact ⟨q0, arr2, T2, by rw [hother k hkb]; exact q1, q2, fun j x y hx hy => ⟨(q3 j x y hx hy).1, live _ _ _ (by simp) (q3 j x y hx hy).2⟩⟩
  · by_cases hkb : k = b
    · subst hkb
      rcases r.ownB k _ ho with h | h
      · omega
      · exact absurd h hF
    · rw [hother k hkb]; exact r.below k hk hF

theorem run_storeVar {t : TypeId} {x : Nat × Bool} (ht : vT P t = some x) {b off : Nat} {arr : Array Value} {T : TypeId} (hh : w.heap[b]? = some (.cells arr T (0, 0))) (y : Value)
    (hsz : y.cells.size = x.1) (hle : off + y.cells.size ≤ arr.size) (h1 : ∀ v ∈ y.cells, v.oneCell' = true) :
    (storeVar t ⟨b, off, none⟩ y).run P w = .ok () (w.setRow b (arr.toList.take off ++ y.cells.toList ++ arr.toList.drop (off + y.cells.size)).toArray) := by
  obtain ⟨i, d, hinf, _, hi, _⟩ := vT_some (w := w) ht
  have := run_storeCells_at P b off T y.cells.toList 0 arr w hh (by simpa using hle) (by simpa using h1)
  simp only [Nat.add_zero, Array.length_toList] at this
  simp only [storeVar, Sem.run_bind, run_sizeOf' hinf, Result.andThen_ok, hi, hsz, ne_eq, not_true_eq_false, if_false, Sem.run_pure]
  rw [hsz] at this
  exact this

end
end Go.Rw
