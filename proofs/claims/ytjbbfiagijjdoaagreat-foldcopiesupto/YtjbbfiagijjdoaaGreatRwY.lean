/- Parts of the proof: what is used by the law. No condition. -/
import Derived.Test.YtjbbfiagijjdoaaGreatRwX
set_option linter.unusedSimpArgs false
set_option linter.unusedVariables false
/- A mutable slice becomes one that never changes again. No condition. -/
set_option linter.unusedSimpArgs false
set_option linter.unusedVariables false
namespace Go.Rw

/-- the state behind it -/
def frozenT (b : Nat) (rows : List (List AV)) (t : Nat → AV) : Nat → AV := fun i => frz2 b rows (t i)
def frozenH (b : Nat) (rows : List (List AV)) (h : Nat → Option (List AV)) : Nat → Option (List AV) := fun k => if k = b then none else (h k).map fun c => c.map (frz0 b rows)

theorem frz0_live {b : Nat} {rows : List (List AV)} {G : Ghost} {w : World} {p : Own} {x : AV} {y : Value} (h : LiveOK G w p x y) : LiveOK G w p (frz0 b rows x) y := by
  cases x with
  | sm b' off n c => simp only [frz0]; split <;> trivial
  | _ => exact h
theorem frz1_live {b : Nat} {rows : List (List AV)} {G : Ghost} {w : World} {p : Own} {x : AV} {y : Value} (h : LiveOK G w p x y) : LiveOK G w p (frz1 b rows x) y := by
  cases x with
  | agg cs => trivial
  | _ => exact frz0_live (b := b) (rows := rows) h
theorem frz2_live {b : Nat} {rows : List (List AV)} {G : Ghost} {w : World} {p : Own} {x : AV} {y : Value} (h : LiveOK G w p x y) : LiveOK G w p (frz2 b rows x) y := by
  cases x with
  | tup cs => trivial
  | _ => exact frz1_live (b := b) (rows := rows) h

theorem Shift.freeze {n : Nat} {t : Nat → AV} {h : Nat → Option (List AV)} {K : ASt → Prop} (d : Nat) (e : TypeId) {b len cap sz : Nat} {cells : List AV} (rows : List (List AV)) (hd : t d = .sm b 0 len cap) (hb : h b = some cells) (hc : chunks cells rows sz)
    (hn : rows.length = len) (hcap : cells.length = cap * sz) (hk : K ⟨n, upd (frozenT b rows t) d (.sl (.live e sz false) rows), frozenH b rows h⟩) : Shift ⟨n, t, h⟩ K := by
  intro B F w0 I0 G a w r
  obtain ⟨ho, arr, T, hh, hsz, hcells⟩ := r.hrel.obj b cells hb
  have hex := r.hrel.excl b ho
  have hc3 := hc.2.2.1
  have hsub : Sub G.imm (fun k i => if k = b then (if i < rows.length * sz then arr[i]? else none) else G.imm k i) := fun k i v hq => by
    by_cases hkb : k = b
    · rw [hkb, hex i] at hq; simp at hq
    · simp only [hkb, if_false]; exact hq
  have hin := chunks_in (b := b) hc hsz (fun j x y hx hy => (hcells j x y hx hy).1) hsub (fun i hi => by simp [hi])
  have hI : ∀ k i v, (fun k i => if k = b then (if i < rows.length * sz then arr[i]? else none) else G.imm k i : Imm) k i = some v → w.cell? ⟨k, i, none⟩ = some v := fun k i v hq => by
    simp only at hq
    split at hq
    · rename_i hkb
      rw [hkb]
      split at hq
      · simp [World.cell?, hh, hq]
      · simp at hq
    · exact r.hrel.imm k i v hq
  -- the rights to write stay as they are
  have live : ∀ (p : Own) (x : AV) (y : Value), p ≠ .obj → LiveOK G w p x y → LiveOK { imm := fun k i => if k = b then (if i < rows.length * sz then arr[i]? else none) else G.imm k i, own := upd G.own b (some (.slot d)) } w p x y := by
    intro p x y hp hl
    cases x with
    | sl tag rows' =>
      cases tag with
      | live e' sz' pu' =>
        rcases hl with hl | ⟨k, cap', cur', T', hy', ho', hi', hpu', hh', hc'⟩
        · exact .inl hl
        · have hkb : k ≠ b := by
            rintro rfl
            rw [ho] at ho'
            exact hp (Option.some.inj ho').symm
          exact .inr ⟨k, cap', cur', T', hy', by simp only [upd, hkb, if_false]; exact ho', fun i h1 => by simp only [hkb, if_false]; exact hi' i h1, fun q => (hpu' q).mono hsub, hh', hc'⟩
      | full => exact hl
      | _ => trivial
    | ob m k ob =>
      obtain ⟨ho', hh'⟩ := hl
      have hkb : k ≠ b := by
        rintro rfl
        rw [ho] at ho'
        exact hp (Option.some.inj ho').symm
      exact ⟨by simp only [upd, hkb, if_false]; exact ho', hh'⟩
    | _ => trivial
  refine ⟨_, { imm := fun k i => if k = b then (if i < rows.length * sz then arr[i]? else none) else G.imm k i, own := upd G.own b (some (.slot d)) }, hk, ?_⟩
  refine ⟨⟨hI, fun k c hkc => ?_, fun k hko i => ?_, fun k o hko => ?_⟩, r.size, fun i => ?_, r.defers, r.below, r.base, fun k o hko => ?_, fun k hkB hF => ?_, r.sub0.trans hsub, r.calm⟩
  · simp only [frozenH] at hkc
    split at hkc
    · simp at hkc
    · rename_i hkb
      cases hz : h k with
      | none => simp [hz] at hkc
      | some c0 =>
        simp [hz] at hkc
        subst hkc
        obtain ⟨ho', arr', T', q1, q2, q3⟩ := r.hrel.obj k c0 hz
        refine ⟨by simp only [upd, hkb, if_false]; exact ho', arr', T', q1, by simp [q2], fun j x y hx hy => ?_⟩
        simp only [List.getElem?_map] at hx
        cases hx0 : c0[j]? with
        | none => simp [hx0] at hx
        | some x0 =>
          simp [hx0] at hx
          subst hx
          obtain ⟨q4, q5⟩ := q3 j x0 y hx0 hy
          exact ⟨q4.frz0 hsub hin, frz0_live (live _ _ _ (by simp) q5)⟩
  · simp only [upd] at hko
    split at hko
    · simp at hko
    · rename_i hkb
      show (if k = b then _ else G.imm k i) = none
      rw [if_neg hkb]; exact r.hrel.excl k hko i
  · simp only [upd] at hko
    split at hko
    · rename_i hkb; subst hkb; exact r.hrel.own k _ ho
    · exact r.hrel.own k o hko
  · have hti := r.tmps i
    by_cases hid : i = d
    · subst hid
      simp only [upd, if_true]
      rw [show (⟨n, t, h⟩ : ASt).t i = t i from rfl, hd] at hti
      obtain ⟨h1, _⟩ := hti
      generalize a.tmps.getD i undef = y at h1 ⊢
      cases h1 with
      | sm _ _ _ _ hc1 hl1 hcm =>
        have h2 : Rep (fun k i => if k = b then (if i < rows.length * sz then arr[i]? else none) else G.imm k i) (.sl .no rows) (.slice (some ⟨b, 0, none⟩) len cap) := by
          have := (Rep.sm (I := G.imm) b 0 len cap hc1 hl1 hcm).frz0 hsub hin
          have hts : rows.take len = rows := List.take_of_length_le (by omega)
          simpa [frz0, hn, hts] using this
        refine ⟨h2.retag (by simp), .inr ⟨b, cap, arr, T, by rw [hn], by simp [upd], fun i hi => ?_, by simp, hh, by omega, hcm, by rw [hsz, hcap], hc.1⟩⟩
        have : ¬ i < rows.length * sz := by omega
        simp [this]
    · simp only [upd, hid, if_false]
      exact ⟨hti.1.frz2 hsub hin, frz2_live (live _ _ _ (by simp) hti.2)⟩
  · simp only [upd] at hko
    split at hko
    · rename_i hkb; subst hkb; exact r.ownB k _ ho
    · exact r.ownB k o hko
  · have hkb : k ≠ b := by
      rintro rfl
      rcases r.ownB k _ ho with h | h
      · omega
      · exact hF h
    show (fun i => if k = b then _ else G.imm k i) = I0 k
    funext i
    rw [if_neg hkb, r.immB k hkB hF]

/-- a field known to be nil is one's own to grow -/
theorem Rel.mn {B : Nat} {F : Nat → Prop} {w0 : World} {I0 : Imm} {s : ASt} {G : Ghost} {a : Act} {w : World} (r : Rel B F w0 I0 s G a w) {b j : Nat} {cells : List AV} (hb : s.h b = some cells) (hj : cells[j]? = some (.sl .nil [])) :
    Rel B F w0 I0 { s with h := upd s.h b (some (cells.set j .mn)) } G a w := by
  refine ⟨⟨r.hrel.imm, fun k c hk => ?_, r.hrel.excl, r.hrel.own⟩, r.size, r.tmps, r.defers, r.below, r.base, r.ownB, r.immB, r.sub0, r.calm⟩
  simp only [upd] at hk
  split at hk
  · rename_i hkb
    subst hkb
    obtain rfl := Option.some.inj hk
    obtain ⟨h1, arr, T, h2, h3, h4⟩ := r.hrel.obj k cells hb
    refine ⟨h1, arr, T, h2, by rw [h3, List.length_set], fun i x y hx hy => ?_⟩
    rw [List.getElem?_set] at hx
    split at hx
    · rename_i hji
      subst hji
      split at hx
      · obtain rfl := Option.some.inj hx
        obtain ⟨h5, _⟩ := h4 j _ y hj hy
        refine ⟨?_, trivial⟩
        cases h5 with
        | nil => exact .mn none
        | empty _ hq => exact absurd rfl hq
        | sl _ _ hq => exact absurd rfl hq
      · simp at hx
    · exact h4 i x y hx hy
  · exact r.hrel.obj k c hk
theorem shiftK.mn {n : Nat} {t : Nat → AV} {h : Nat → Option (List AV)} {K : ASt → Prop} (b j : Nat) (cells : List AV) (hb : h b = some cells) (hj : cells[j]? = some (.sl .nil [])) (hk : @forceL (some (cells.set j .mn)) ⟨fun z => @shiftK ⟨n, t, upd h b (some z)⟩ ⟨K⟩⟩) : @shiftK ⟨n, t, h⟩ ⟨K⟩ :=
  fun B F w0 I0 G a w r => hk B F w0 I0 G a w (r.mn (s := ⟨n, t, h⟩) hb hj)

theorem shiftK.freeze {n : Nat} {t : Nat → AV} {h : Nat → Option (List AV)} {K : ASt → Prop} (d : Nat) (e : TypeId) {b len cap sz : Nat} {cells : List AV} (rows : List (List AV)) (hd : t d = .sm b 0 len cap) (hb : h b = some cells) (hc : chunks cells rows sz)
    (hn : rows.length = len) (hcap : cells.length = cap * sz) (hk : @exitK ⟨n, upd (frozenT b rows t) d (.sl (.live e sz false) rows), frozenH b rows h⟩ ⟨K⟩) : @shiftK ⟨n, t, h⟩ ⟨K⟩ := Shift.freeze d e rows hd hb hc hn hcap hk
end Go.Rw
