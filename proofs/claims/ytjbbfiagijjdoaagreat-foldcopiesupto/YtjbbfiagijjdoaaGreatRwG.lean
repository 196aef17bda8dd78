/- Parts of the proof: what is used by the law. No condition. -/
import Derived.Test.YtjbbfiagijjdoaaGreatRwF
set_option linter.unusedSimpArgs false
set_option linter.unusedVariables false
/- A slice grows at its end. No condition. -/
set_option linter.unusedSimpArgs false
set_option linter.unusedVariables false
namespace Go.Rw

/-- may 'append' write behind the end, or must it make a new array? -/
def appOK (tag : Tag) (e sz : Nat) : Prop := tag = .nil ∨ tag = .full ∨ ∃ pu, tag = .live e sz pu

@[simp] theorem appOK_nil (e sz : Nat) : appOK .nil e sz := .inl rfl
@[simp] theorem appOK_full (e sz : Nat) : appOK .full e sz := .inr (.inl rfl)
@[simp] theorem appOK_live (e sz : Nat) (pu : Bool) : appOK (.live e sz pu) e sz := .inr (.inr ⟨pu, rfl⟩)

/-- what a slice is to whoever has appended to it -/
def appTag (tag : Tag) (e sz : Nat) (rows2 : List (List AV)) : Tag := match tag, rows2 with
  | .full, [] => .full
  | .full, _ => .live e sz true
  | _, _ => .live e sz false
@[simp] theorem appTag_nil (e sz : Nat) (r : List (List AV)) : appTag .nil e sz r = .live e sz false := by cases r <;> rfl
@[simp] theorem appTag_live (e sz e' sz' : Nat) (pu : Bool) (r : List (List AV)) : appTag (.live e' sz' pu) e sz r = .live e sz false := by cases r <;> rfl
@[simp] theorem appTag_full_nil (e sz : Nat) : appTag .full e sz [] = .full := rfl
@[simp] theorem appTag_full_cons (e sz : Nat) (r : List AV) (l : List (List AV)) : appTag .full e sz (r :: l) = .live e sz true := rfl
theorem appTag_full {e sz : Nat} {r : List (List AV)} (h : r ≠ []) : appTag .full e sz r = .live e sz true := by
  cases r with
  | nil => exact absurd rfl h
  | cons => rfl
theorem appTag_or (tag : Tag) (e sz : Nat) (r : List (List AV)) : (∃ pu, appTag tag e sz r = .live e sz pu) ∨ (tag = .full ∧ r = [] ∧ appTag tag e sz r = .full) := by
  cases tag <;> cases r <;> simp [appTag]
@[simp] theorem appOK_appTag (tag : Tag) (e sz : Nat) (r : List (List AV)) : appOK (appTag tag e sz r) e sz := by
  rcases appTag_or tag e sz r with ⟨pu, h⟩ | ⟨_, _, h⟩ <;> rw [h] <;> simp

section
variable {B : Nat} {F : Nat → Prop} {w0 : World} {I0 : Imm} {s : ASt} {G : Ghost} {a : Act} {w : World} {P : Program}

/-- The right to write is taken from a place. -/
theorem killAt_h_cell (s : ASt) (b j : Nat) : (s.killAt (.cell b j)).h = upd s.h b ((s.h b).map fun cs => cs.modify j dead1) := rfl

/-- Another block (a new one, or one's own) is turned; the right to write to it goes from place p0 to place o. -/
theorem Rel.turn (r : Rel B F w0 I0 s G a w) (p0 o : Own) (g : Nat) (w' : World) (imm' : Imm) (ho : o ≠ .obj) (hp0 : p0 ≠ .obj) (hsub : Sub G.imm imm')
    (hheap : ∀ b, b ≠ g → b < w.heap.size → w'.heap[b]? = w.heap[b]?) (hsize : w.heap.size ≤ w'.heap.size)
    (himm : ∀ b, b ≠ g → b < w.heap.size → imm' b = G.imm b) (hg : G.own g = some p0 ∨ w.heap.size ≤ g) (hg' : g < w'.heap.size)
    (hin : ∀ b i v, imm' b i = some v → w'.cell? ⟨b, i, none⟩ = some v) (hk : Calm w w') :
    Rel B F w0 I0 (s.killAt p0) { imm := imm', own := upd G.own g (some o) } a w' := by
  have hgB : B ≤ g ∨ F g := by
    rcases hg with h | h
    · exact r.ownB g _ h
    · exact .inl (Nat.le_trans r.base h)
  have hobj : G.own g ≠ some .obj := by
    rcases hg with h | h
    · rw [h]; intro h; injection h with h; exact hp0 h
    · intro h2; have := r.hrel.own g _ h2; omega
  have live : ∀ (p : Own) (x : AV) (y : Value), p ≠ p0 → LiveOK G w p x y → LiveOK { imm := imm', own := upd G.own g (some o) } w' p x y := by
    intro p x y hp h
    cases x with
    | sl tag rows =>
      cases tag with
      | live e sz pu =>
        rcases h with h | ⟨k, cap, cur, T, hy, ho, hi, hpu, hh, hc⟩
        · exact .inl h
        · have hkg : k ≠ g := by
            rintro rfl
            rcases hg with h | h
            · rw [ho] at h; injection h with h; exact hp h
            · have := r.hrel.own k _ ho; omega
          exact .inr ⟨k, cap, cur, T, hy, by simp [upd, hkg, ho], fun i h1 => by show imm' k i = none; rw [himm k hkg (r.hrel.own k _ ho)]; exact hi i h1, fun q => (hpu q).mono hsub, by rw [hheap k hkg (r.hrel.own k _ ho)]; exact hh, hc⟩
      | full => exact h
      | _ => trivial
    | ob v k ob =>
      obtain ⟨ho, hh⟩ := h
      have hkg : k ≠ g := by
        rintro rfl
        rcases hg with h | h
        · rw [ho] at h; injection h with h; exact hp h
        · have := r.hrel.own k _ ho; omega
      exact ⟨by simp [upd, hkg, ho], by rw [hheap k hkg (r.hrel.own k _ ho)]; exact hh⟩
    | _ => trivial
  have hn : (s.killAt p0).n = s.n := by cases p0 <;> simp [ASt.killAt, ASt.kill, ASt.set] <;> split <;> rfl
  have hobjs : ∀ b cells, (s.killAt p0).h b = some cells → ∃ cells0, s.h b = some cells0 ∧ cells.length = cells0.length ∧
      ∀ (j : Nat) (x : AV), cells[j]? = some x → ∃ x0, cells0[j]? = some x0 ∧ (x = x0 ∧ p0 ≠ .cell b j ∨ x = dead1 x0) := by
    intro b cells hb
    cases p0 with
    | obj => exact absurd rfl hp0
    | slot i =>
      have : (s.killAt (.slot i)).h = s.h := by simp only [ASt.killAt, ASt.kill, ASt.set]; split <;> rfl
      rw [this] at hb
      exact ⟨cells, hb, rfl, fun j x hx => ⟨x, hx, .inl ⟨rfl, by simp⟩⟩⟩
    | cell b0 j0 =>
      rw [killAt_h_cell] at hb
      simp only [upd] at hb
      split at hb
      · rename_i hbb
        subst hbb
        cases hc : s.h b with
        | none => simp [hc] at hb
        | some cells0 =>
          simp [hc] at hb
          subst hb
          refine ⟨cells0, rfl, by simp, fun j x hx => ?_⟩
          rw [List.getElem?_modify] at hx
          cases hz : cells0[j]? with
          | none => simp [hz] at hx
          | some x0 =>
            simp only [hz, Option.map_eq_map, Option.map_some, Option.some.injEq] at hx
            refine ⟨x0, rfl, ?_⟩
            split at hx
            · exact .inr hx.symm
            · rename_i hj; exact .inl ⟨hx.symm, by intro h; injection h with _ h; exact hj h⟩
      · rename_i hbb
        exact ⟨cells, hb, rfl, fun j x hx => ⟨x, hx, .inl ⟨rfl, by intro h; injection h with h _; exact hbb h.symm⟩⟩⟩
  refine ⟨⟨hin, ?_, ?_, ?_⟩, by rw [hn]; exact r.size, fun i => ?_, r.defers, ?_, Nat.le_trans r.base hsize, ?_, ?_, ?_, ?_⟩
  · intro b cells hb
    obtain ⟨cells0, hb0, hl0, hx0⟩ := hobjs b cells hb
    obtain ⟨ho', arr, T, h1, h2, h3⟩ := r.hrel.obj b cells0 hb0
    have hbg : b ≠ g := by rintro rfl; exact hobj ho'
    refine ⟨by simp [upd, hbg, ho'], arr, T, by rw [hheap b hbg (r.hrel.own b _ ho')]; exact h1, by rw [h2, hl0], fun j x y hx hy => ?_⟩
    obtain ⟨x0, hx0', hor⟩ := hx0 j x hx
    obtain ⟨h4, h5⟩ := h3 j x0 y hx0' hy
    rcases hor with ⟨rfl, hne⟩ | rfl
    · exact ⟨h4.mono hsub, live _ _ _ (fun h => hne h.symm) h5⟩
    · exact ⟨h4.dead.mono hsub, LiveOK.dead _ _⟩
  · intro b hb i
    simp only [upd] at hb
    split at hb
    · injection hb with hb; exact absurd hb ho
    · rename_i hbg
      show imm' b i = none
      rw [himm b hbg (r.hrel.own b _ hb)]; exact r.hrel.excl b hb i
  · intro b o' hb
    simp only [upd] at hb
    split at hb
    · rename_i h; subst h; exact hg'
    · exact Nat.lt_of_lt_of_le (r.hrel.own b o' hb) hsize
  · by_cases hi : p0 = .slot i
    · subst hi
      have hk := (r.kill i).tmps i
      refine ⟨hk.1.mono hsub, ?_⟩
      by_cases hlt : i < s.n
      · have : (s.killAt (.slot i)).t i = dead1 (s.t i) := by simp [ASt.killAt, ASt.kill, ASt.set, hlt, upd]
        rw [this]; exact LiveOK.dead _ _
      · -- beyond the slots nothing lives
        have hsame : (s.killAt (.slot i)).t i = s.t i := by simp [ASt.killAt, ASt.kill, ASt.set, hlt]
        rw [hsame]
        have hu : a.tmps.getD i undef = undef := by
          have : ¬ i < a.tmps.size := by rw [r.size]; exact hlt
          simp [this]
        have hrep := (r.tmps i).1
        rw [hu] at hrep ⊢
        cases hx : s.t i with
        | sl tag rows => rw [hx] at hrep; unfold undef at hrep; cases hrep
        | ob m k ob => rw [hx] at hrep; unfold undef at hrep; cases m <;> exact (nomatch hrep)
        | _ => trivial
    · have hsame : (s.killAt p0).t i = s.t i := by
        cases p0 with
        | obj => rfl
        | slot k =>
          have hki : ¬ i = k := by rintro rfl; exact hi rfl
          simp only [ASt.killAt, ASt.kill, ASt.set]; split
          · simp [upd, hki]
          · rfl
        | cell b j => rfl
      rw [hsame]
      exact ⟨(r.tmps i).1.mono hsub, live (.slot i) _ _ (fun h => hi h.symm) (r.tmps i).2⟩
  · intro b hb hF
    have hbg : b ≠ g := by
      rintro rfl
      rcases hgB with h | h
      · omega
      · exact hF h
    exact (hheap b hbg (Nat.lt_of_lt_of_le hb r.base)).trans (r.below b hb hF)
  · intro b o' hb
    simp only [upd] at hb
    split at hb
    · rename_i h; subst h; exact hgB
    · exact r.ownB b o' hb
  · intro b hb hF
    have hbg : b ≠ g := by
      rintro rfl
      rcases hgB with h | h
      · omega
      · exact hF h
    exact (himm b hbg (Nat.lt_of_lt_of_le hb r.base)).trans (r.immB b hb hF)
  · exact r.sub0.trans hsub
  · exact r.calm.trans hk

/-- the cells of rows as one list of values -/
theorem flat_cells {I : Imm} {rows : List (List AV)} {sz b o : Nat} (c : Nat → Nat → Value)
    (hs : ∀ (i : Nat) (r : List AV), rows[i]? = some r → r.length = sz)
    (hi : ∀ i j, i < rows.length → j < sz → I b (o + i * sz + j) = some (c i j)) :
    ∃ cs : List Value, cs.length = rows.length * sz ∧ (∀ j v, cs[j]? = some v → I b (o + j) = some v) ∧ ∀ i j, i < rows.length → j < sz → cs[i * sz + j]? = some (c i j) := by
  by_cases hz : sz = 0
  · subst hz; exact ⟨[], by simp, by simp, by omega⟩
  · have hpos : 0 < sz := by omega
    refine ⟨(List.range (rows.length * sz)).map fun k => c (k / sz) (k % sz), by simp, fun j v hj => ?_, fun i j hi' hj => ?_⟩
    · rw [getElem?_map_range] at hj
      split at hj
      · rename_i hlt
        obtain rfl := Option.some.inj hj
        have h1 : j / sz < rows.length := (Nat.div_lt_iff_lt_mul hpos).2 hlt
        have h2 := hi (j / sz) (j % sz) h1 (Nat.mod_lt _ hpos)
        have h3 : o + j / sz * sz + j % sz = o + j := by
          have := Nat.div_add_mod j sz
          rw [Nat.mul_comm] at this; omega
        rw [h3] at h2; exact h2
      · simp at hj
    · rw [getElem?_map_range]
      have h3 : i * sz + j < rows.length * sz := by
        have : (i + 1) * sz ≤ rows.length * sz := Nat.mul_le_mul_right _ (by omega)
        rw [Nat.add_mul] at this; omega
      have h1 : (i * sz + j) / sz = i := by rw [Nat.mul_comm, Nat.mul_add_div hpos, Nat.div_eq_of_lt hj, Nat.add_zero]
      have h2 : (i * sz + j) % sz = j := by rw [Nat.mul_comm, Nat.mul_add_mod, Nat.mod_eq_of_lt hj]
      rw [if_pos h3, h1, h2]

/-- nothing is appended -/
theorem run_append_zero {t ty e : TypeId} {i : TypeInfo} {b : Option Addr} {n c : Nat} {y : Value} (ht : P.underlying t = some (.slice e)) (hi : P.info? e = some i) (hc : n ≤ c)
    (hy : y = .slice none 0 0 ∨ ∃ ad k, y = .slice (some ad) 0 k) :
    (Builtin.append_ #[t, t] ty #[.slice b n c, y]).run P w = .ok (.slice b n c) w := by
  rcases hy with rfl | ⟨ad, k, rfl⟩ <;> cases b <;>
    simp [Builtin.append_, run_underlying ht, sizeOf, typeInfo, hi, Builtin.lenOf, Builtin.firstCells, hc, storeCells, loadCells, loadCellsFrom]

end
end Go.Rw
