/- Parts of the proof: what is used by the law. No condition. -/
import Derived.Test.YtjbbfiagijjdoaaGreatRwK
set_option linter.unusedSimpArgs false
set_option linter.unusedVariables false
/- One operation, in abstract states: it is right. No condition. -/
set_option linter.unusedSimpArgs false
set_option linter.unusedVariables false
namespace Go.Rw
section
variable {P : Program} {B : Nat} {F : Nat → Prop} {w0 : World} {I0 : Imm} {s : ASt} {G : Ghost} {a : Act} {w : World}

theorem cell_reps {I : Imm} {xs : List AV} {ys : List Value} (h : Reps I xs ys) (ts : List AV) (us : List Value) (h2 : Reps I ts us) : Reps I (xs ++ ts) (ys ++ us) := by
  refine ⟨by simp [h.1, h2.1], fun j x y hx hy => ?_⟩
  rw [List.getElem?_append] at hx hy
  rw [h.1] at hx
  split at hx
  · rename_i hj; rw [if_pos hj] at hy; exact h.2 j x y hx hy
  · rename_i hj; rw [if_neg hj] at hy; exact h2.2 _ x y hx hy

theorem args_reps (r : Rel B F w0 I0 s G a w) (l : List Operand) : Reps G.imm (l.map fun x => dead1 (s.ev x)) (l.map a.eval) := by
  refine ⟨by simp, fun j x y hx hy => ?_⟩
  simp only [List.getElem?_map] at hx hy
  cases hz : l[j]? with
  | none => simp [hz] at hx
  | some z => simp [hz] at hx hy; subst hx; subst hy; exact (r.ev z).dead

theorem argN_reps (r : Rel B F w0 I0 s G a w) (l : List Operand) : Reps G.imm (l.map (argN s)) (l.map a.eval) := by
  refine ⟨by simp, fun j x y hx hy => ?_⟩
  simp only [List.getElem?_map] at hx hy
  cases hz : l[j]? with
  | none => simp [hz] at hx
  | some z =>
    simp [hz] at hx hy
    subst hx; subst hy
    unfold argN
    split
    · exact .mn none
    · exact (r.ev _).dead

theorem FreshOK.live {n : Nat} {I : Imm} {w : World} {x : AV} {y : Value} (h : FreshOK n I w x y) {d : Nat} (hI : ∀ b i v, I b i = some v → w.cell? ⟨b, i, none⟩ = some v) :
    (∀ G : Ghost, LiveOK G w (.slot d) x y) ∨ ∃ g, n ≤ g ∧ g < w.heap.size ∧ ∀ G : Ghost, G.imm = I → G.own g = some (.slot d) → LiveOK G w (.slot d) x y := by
  cases x with
  | sl tag rows =>
    cases tag with
    | live e sz pu =>
      rcases h with h | ⟨g, cap, cur, T, hy, hn, hi, hpu, hh, hc⟩
      · exact .inl fun G => .inl h
      · refine .inr ⟨g, hn, ?_, fun G hG ho => .inr ⟨g, cap, cur, T, hy, ho, fun i h1 => by rw [hG]; exact hi i h1, by rw [hG]; exact hpu, hh, hc⟩⟩
        rcases Nat.lt_or_ge g w.heap.size with h' | h'
        · exact h'
        · simp [Array.getElem?_eq_none h'] at hh
    | full => exact .inl fun G => h
    | no => exact .inl fun G => trivial
    | nil => exact .inl fun G => trivial
  | ob m g o =>
    refine .inr ⟨g, h.1, ?_, fun G hG ho => ⟨ho, h.2⟩⟩
    rcases Nat.lt_or_ge g w.heap.size with h' | h'
    · exact h'
    · have := h.2; simp [Array.getElem?_eq_none h'] at this
  | _ => exact .inl fun G => trivial

/-- What a call hands back goes into its slot. -/
theorem call_put (r : Rel B F w0 I0 s G a w) {w' : World} {I' : Imm} {x : AV} {v : Value} (he : Ext w G.imm w' I') (hrep : Rep I' x v) (hf : FreshOK w.heap.size I' w' x v) (d : Option Tmp) :
    ∃ G', Rel B F w0 I0 (s.put d x) G' (a.put d v) w' := by
  cases d with
  | none => exact ⟨_, r.ext he⟩
  | some d =>
    rcases hf.live (d := d) he.imm with h | ⟨g, hn, hg, h⟩
    · exact ⟨_, (r.ext he).set d x v hrep (h _)⟩
    · have r2 := r.turn (.slot s.n) (.slot d) g w' I' (by simp) (by simp) (he.sub r.hrel.imm) (fun b _ hb => he.heap b hb) he.size (fun b _ hb => he.old b hb) (.inr hn) hg he.imm he.calm
      have hk : s.killAt (.slot s.n) = s := by simp [ASt.killAt, ASt.kill, ASt.set]
      rw [hk] at r2
      exact ⟨_, r2.set d x v hrep (h _ rfl (by simp [upd]))⟩

/-- a block that nobody owns becomes a slot's -/
theorem Rel.claim (r : Rel B F w0 I0 s G a w) (d g : Nat) (hno : G.own g = none) (hg : B ≤ g ∨ F g) (hlt : g < w.heap.size) :
    Rel B F w0 I0 s { G with own := upd G.own g (some (.slot d)) } a w := by
  have live : ∀ (p : Own) (x : AV) (y : Value), LiveOK G w p x y → LiveOK { G with own := upd G.own g (some (.slot d)) } w p x y := by
    intro p x y h
    cases x with
    | sl tag rows =>
      cases tag with
      | live e sz pu =>
        rcases h with h | ⟨k, cap, cur, T, hy, ho, hi, hpu, hh, hc⟩
        · exact .inl h
        · have hkg : k ≠ g := by rintro rfl; rw [ho] at hno; simp at hno
          exact .inr ⟨k, cap, cur, T, hy, by simp [upd, hkg, ho], hi, hpu, hh, hc⟩
      | full => exact h
      | _ => trivial
    | ob v k ob =>
      obtain ⟨ho, hh⟩ := h
      have hkg : k ≠ g := by rintro rfl; rw [ho] at hno; simp at hno
      exact ⟨by simp [upd, hkg, ho], hh⟩
    | _ => trivial
  refine ⟨⟨r.hrel.imm, fun b cells hb => ?_, fun b ho i => ?_, fun b o ho => ?_⟩, r.size, fun i => ⟨(r.tmps i).1, live _ _ _ (r.tmps i).2⟩, r.defers, r.below, r.base, fun b o ho => ?_, r.immB, r.sub0, r.calm⟩
  · obtain ⟨ho, arr, T, h1, h2, h3⟩ := r.hrel.obj b cells hb
    have hbg : b ≠ g := by rintro rfl; rw [ho] at hno; simp at hno
    exact ⟨by simp [upd, hbg, ho], arr, T, h1, h2, fun j x y hx hy => ⟨(h3 j x y hx hy).1, live _ _ _ (h3 j x y hx hy).2⟩⟩
  · simp only [upd] at ho
    split at ho
    · simp at ho
    · exact r.hrel.excl b ho i
  · simp only [upd] at ho
    split at ho
    · rename_i h; subst h; exact hlt
    · exact r.hrel.own b o ho
  · simp only [upd] at ho
    split at ho
    · rename_i h; subst h; exact hg
    · exact r.ownB b o ho

/-- what is handed over to a call -/
def handed (h : Nat → Option (List AV)) (G : Ghost) : Ghost := { G with own := fun g => match G.own g with
  | some .obj => if (h g).isSome then some .obj else none
  | some (.cell b j) => if (h b).isSome then some (.cell b j) else none
  | _ => none }

theorem handed_own {h : Nat → Option (List AV)} {G : Ghost} {g : Nat} {o : Own} (ho : (handed h G).own g = some o) : G.own g = some o := by
  unfold handed at ho
  simp only at ho
  split at ho
  · rename_i h1; split at ho
    · rw [h1]; exact ho
    · simp at ho
  · rename_i h1; split at ho
    · rw [h1]; exact ho
    · simp at ho
  · simp at ho

theorem handed_noSlot (h : Nat → Option (List AV)) (G : Ghost) : NoSlot (handed h G) := by
  intro g i ho
  have h1 := handed_own ho
  unfold handed at ho
  simp only [h1] at ho
  simp at ho

theorem handed_obj {h : Nat → Option (List AV)} {G : Ghost} {g : Nat} {c : List AV} (ho : G.own g = some .obj) (hg : h g = some c) : (handed h G).own g = some .obj := by
  simp [handed, ho, hg]
theorem handed_cell {h : Nat → Option (List AV)} {G : Ghost} {g b j : Nat} {c : List AV} (ho : G.own g = some (.cell b j)) (hg : h b = some c) : (handed h G).own g = some (.cell b j) := by
  simp [handed, ho, hg]
theorem handed_obj_none {h : Nat → Option (List AV)} {G : Ghost} {g : Nat} (ho : G.own g = some .obj) (hg : h g = none) : (handed h G).own g = none := by
  simp [handed, ho, hg]
theorem handed_cell_none {h : Nat → Option (List AV)} {G : Ghost} {g b j : Nat} (ho : G.own g = some (.cell b j)) (hg : h b = none) : (handed h G).own g = none := by
  simp [handed, ho, hg]
theorem handed_slot {h : Nat → Option (List AV)} {G : Ghost} {g i : Nat} (ho : G.own g = some (.slot i)) : (handed h G).own g = none := by
  simp [handed, ho]

theorem HRel.handed {H h : Nat → Option (List AV)} (r : HRel H G w) (hs : SubH h H) : HRel h (handed h G) w where
  imm := r.imm
  obj := fun b cells hb => by
    obtain ⟨d, hd, hw⟩ := hs b cells hb
    obtain ⟨ho, arr, T, h1, h2, h3⟩ := r.obj b d hd
    refine ⟨handed_obj ho hb, arr, T, h1, by rw [h2, hw.length], fun j x y hx hy => ?_⟩
    obtain ⟨x0, hx0, hor⟩ := hw.get j x hx
    obtain ⟨hr, hl⟩ := h3 j x0 y hx0 hy
    rcases hor with rfl | rfl
    rotate_left
    · exact ⟨hr.dead, LiveOK.dead _ _⟩
    refine ⟨hr, ?_⟩
    cases x with
    | sl tag rows =>
      cases tag with
      | live e sz pu =>
        rcases hl with hl | ⟨k, cap, cur, T, hy', ho', hi, hpu, hh, hc⟩
        · exact .inl hl
        · exact .inr ⟨k, cap, cur, T, hy', handed_cell ho' hb, hi, hpu, hh, hc⟩
      | full => exact hl
      | _ => trivial
    | ob v k ob => exact ⟨handed_cell hl.1 hb, hl.2⟩
    | _ => trivial
  excl := fun b ho i => r.excl b (handed_own ho) i
  own := fun b o ho => r.own b o (handed_own ho)

/-- A call that may write objects: the state behind it. -/
theorem mcall_rel (r : Rel B F w0 I0 s G a w) {h h' : Nat → Option (List AV)} {G' : Ghost} {w' : World} (hs : SubH h s.h)
    (hr : HRel h' G' w') (hn : NoSlot G') (ht : Turned (handed h G) w G' w') :
    Rel B F w0 I0 { s with h := mergeH s.h h h' } { imm := G'.imm, own := fun g => if g < w.heap.size ∧ (handed h G).own g = none then G.own g else G'.own g } a w' := by
  -- a place that was not handed over
  have live : ∀ (p : Own) (x : AV) (y : Value), (∀ g, G.own g = some p → (handed h G).own g = none) → LiveOK G w p x y →
      LiveOK { imm := G'.imm, own := fun g => if g < w.heap.size ∧ (handed h G).own g = none then G.own g else G'.own g } w' p x y := by
    intro p x y hp hl
    cases x with
    | sl tag rows =>
      cases tag with
      | live e sz pu =>
        rcases hl with hl | ⟨k, cap, cur, T, hy, ho, hi, hpu, hh, hc⟩
        · exact .inl hl
        · have hk := r.hrel.own k _ ho
          have hnk := hp k ho
          exact .inr ⟨k, cap, cur, T, hy, by simp only [hk, hnk, and_self, if_true]; exact ho, fun i h1 => by show G'.imm k i = none; rw [ht.imm k hk hnk]; exact hi i h1, fun q => (hpu q).mono ht.sub, by rw [ht.heap k hk hnk]; exact hh, hc⟩
      | full => exact hl
      | _ => trivial
    | ob v k ob =>
      obtain ⟨ho, hh⟩ := hl
      have hk := r.hrel.own k _ ho
      have hnk := hp k ho
      exact ⟨by simp only [hk, hnk, and_self, if_true]; exact ho, by rw [ht.heap k hk hnk]; exact hh⟩
    | _ => trivial
  have own' : ∀ g o, G'.own g = some o → ¬ (g < w.heap.size ∧ (handed h G).own g = none) := by
    rintro g o ho ⟨h1, h2⟩
    rw [ht.own g h1 h2] at ho; simp at ho
  have live' : ∀ (p : Own) (x : AV) (y : Value), LiveOK G' w' p x y →
      LiveOK { imm := G'.imm, own := fun g => if g < w.heap.size ∧ (handed h G).own g = none then G.own g else G'.own g } w' p x y := by
    intro p x y hl
    cases x with
    | sl tag rows =>
      cases tag with
      | live e sz pu =>
        rcases hl with hl | ⟨k, cap, cur, T, hy, ho, hi, hpu, hh, hc⟩
        · exact .inl hl
        · exact .inr ⟨k, cap, cur, T, hy, by simp only [own' k _ ho, if_false]; exact ho, hi, hpu, hh, hc⟩
      | full => exact hl
      | _ => trivial
    | ob v k ob =>
      obtain ⟨ho, hh⟩ := hl
      exact ⟨by simp only [own' k _ ho, if_false]; exact ho, hh⟩
    | _ => trivial
  refine ⟨⟨hr.imm, fun b cells hb => ?_, fun b ho i => ?_, fun b o ho => ?_⟩, r.size, fun i => ⟨(r.tmps i).1.mono ht.sub, live _ _ _ (fun g hg => handed_slot hg) (r.tmps i).2⟩, r.defers, fun b hb hF => ?_, Nat.le_trans r.base ht.size, fun b o ho => ?_, fun b hb hF => ?_, r.sub0.trans ht.sub, r.calm.trans ht.calm⟩
  · simp only [mergeH] at hb
    split at hb
    · rename_i c hc
      obtain rfl := Option.some.inj hb
      obtain ⟨ho, arr, T, h1, h2, h3⟩ := hr.obj b c hc
      exact ⟨by simp only [own' b _ ho, if_false]; exact ho, arr, T, h1, h2, fun j x y hx hy => ⟨(h3 j x y hx hy).1, live' _ _ _ (h3 j x y hx hy).2⟩⟩
    · split at hb
      · simp at hb
      · rename_i hc' hn'
        obtain ⟨ho, arr, T, h1, h2, h3⟩ := r.hrel.obj b cells hb
        have hn0 : h b = none := by cases hq : h b <;> simp_all
        have hnk : (handed h G).own b = none := handed_obj_none ho hn0
        have hlt := r.hrel.own b _ ho
        refine ⟨by simp only [hlt, hnk, and_self, if_true]; exact ho, arr, T, by rw [ht.heap b hlt hnk]; exact h1, h2, fun j x y hx hy => ⟨(h3 j x y hx hy).1.mono ht.sub, ?_⟩⟩
        exact live _ _ _ (fun g hg => handed_cell_none hg hn0) (h3 j x y hx hy).2
  · show G'.imm b i = none
    simp only at ho
    split at ho
    · rename_i hc
      rw [ht.imm b hc.1 hc.2]
      exact r.hrel.excl b ho i
    · exact hr.excl b ho i
  · simp only at ho
    split at ho
    · rename_i hc; exact Nat.lt_of_lt_of_le hc.1 ht.size
    · exact hr.own b o ho
  · have hno : (handed h G).own b = none := by
      cases hq : (handed h G).own b with
      | none => rfl
      | some o =>
        rcases r.ownB b o (handed_own hq) with h1 | h1
        · omega
        · exact absurd h1 hF
    rw [ht.heap b (Nat.lt_of_lt_of_le hb r.base) hno]
    exact r.below b hb hF
  · simp only at ho
    split at ho
    · exact r.ownB b o ho
    · rename_i hc
      rcases Nat.lt_or_ge b w.heap.size with hlt | hge
      · cases hq : (handed h G).own b with
        | none => exact absurd ⟨hlt, hq⟩ hc
        | some o' => exact r.ownB b o' (handed_own hq)
      · exact .inl (Nat.le_trans r.base hge)
  · have hno : (handed h G).own b = none := by
      cases hq : (handed h G).own b with
      | none => rfl
      | some o =>
        rcases r.ownB b o (handed_own hq) with h1 | h1
        · omega
        · exact absurd h1 hF
    show G'.imm b = I0 b
    rw [ht.imm b (Nat.lt_of_lt_of_le hb r.base) hno]
    exact r.immB b hb hF

theorem mcall_fresh (r : Rel B F w0 I0 s G a w) {h h' : Nat → Option (List AV)} {G' : Ghost} {w' : World} (hr : HRel h' G' w') (ht : Turned (handed h G) w G' w') :
    ∀ b c, h' b = some c → h b = none → s.h b = none := by
  intro b c hb hn
  cases hq : s.h b with
  | none => rfl
  | some d =>
    obtain ⟨ho, _⟩ := r.hrel.obj b d hq
    have hlt := r.hrel.own b _ ho
    have h2 := ht.own b hlt (handed_obj_none ho hn)
    obtain ⟨ho', _⟩ := hr.obj b c hb
    rw [h2] at ho'; simp at ho'

theorem keepNil_eq (x : AV) : keepNil x = dead1 x ∨ (x = .sl .nil [] ∧ keepNil x = x) := by
  unfold keepNil
  split
  · exact .inr ⟨rfl, rfl⟩
  · exact .inl rfl
theorem Rep.keepNil {I : Imm} {x : AV} {y : Value} (h : Rep I x y) : Rep I (Rw.keepNil x) y := by
  rcases keepNil_eq x with e | ⟨_, e⟩ <;> rw [e]
  · exact h.dead
  · exact h
theorem keepNil_fix (x : AV) : dead1 (Rw.keepNil x) = Rw.keepNil x ∨ Rw.keepNil x = .sl .nil [] := by
  rcases keepNil_eq x with e | ⟨e1, e⟩ <;> rw [e]
  · exact .inl (by simp)
  · exact .inr e1
theorem aCellsK_sound {I : Imm} {x : AV} {y : Value} {cs : List AV} (h : Rep I x y) (hc : aCellsK x = some cs) : CR I cs y.cells ∧ (∀ z ∈ cs, cellAV z = true) ∧ ∀ z ∈ cs, dead1 z = z ∨ z = .sl .nil [] := by
  obtain ⟨cs0, hc0, hl, hz⟩ : ∃ cs0, aCells x = some cs0 ∧ cs.length = cs0.length ∧ ∀ (j : Nat) (z : AV), cs[j]? = some z → ∃ z0, cs0[j]? = some z0 ∧ ∃ q, z0 = dead1 q ∧ z = Rw.keepNil q ∧ (x = q ∨ ∃ l, x = .agg l ∧ l[j]? = some q) := by
    unfold aCellsK at hc
    split at hc
    · rename_i l
      split at hc
      · rename_i hall
        obtain rfl := Option.some.inj hc
        refine ⟨l.map dead1, by simp only [aCells]; rw [if_pos hall], by simp, fun j z hz => ?_⟩
        rw [List.getElem?_map] at hz
        cases hq : l[j]? with
        | none => simp [hq] at hz
        | some q => simp [hq] at hz; exact ⟨dead1 q, by simp [hq], q, rfl, hz.symm, .inr ⟨l, rfl, hq⟩⟩
      · simp at hc
    · rename_i hnag
      split at hc
      · rename_i hcell
        obtain rfl := Option.some.inj hc
        refine ⟨[dead1 x], ?_, by simp, fun j z hz => ?_⟩
        · unfold aCells
          split
          · rename_i l; exact absurd rfl (hnag l)
          · rw [if_pos hcell]
        · cases j with
          | zero => simp at hz; exact ⟨dead1 x, by simp, x, rfl, hz.symm, .inl rfl⟩
          | succ j => simp at hz
      · simp at hc
  obtain ⟨hcr, hflag⟩ := aCells_sound h hc0
  refine ⟨⟨by rw [hl]; exact hcr.1, fun j z y' hz' hy' => ?_⟩, fun z hzm => ?_, fun z hzm => ?_⟩
  · obtain ⟨z0, h1, q, rfl, rfl, h2⟩ := hz j z hz'
    have h3 := hcr.2 j _ y' h1 hy'
    rcases keepNil_eq q with e | ⟨e1, e⟩
    · rw [e]; exact h3
    · subst e1
      rw [e]
      rcases h2 with rfl | ⟨l, rfl, hq⟩
      · have : y' = y := by
          cases h with
          | nil =>
            simp only [Value.cells] at hy'
            cases j with
            | zero => simpa using hy'.symm
            | succ j => simp at hy'
          | empty _ hq => exact absurd rfl hq
          | sl _ _ hq => exact absurd rfl hq
        subst this; exact h
      · cases h with
        | agg vs hl' hr' =>
          simp only [Value.cells, List.getElem?_toArray] at hy'
          exact hr' j _ y' hq hy'
  · obtain ⟨j, hj, rfl⟩ := List.getElem_of_mem hzm
    obtain ⟨z0, h1, q, rfl, h2, _⟩ := hz j _ (List.getElem?_eq_getElem hj)
    have h3 := hflag _ (List.mem_of_getElem? h1)
    rw [h2]
    rcases keepNil_eq q with e | ⟨e1, e⟩ <;> rw [e]
    · exact h3
    · subst e1; rfl
  · obtain ⟨j, hj, rfl⟩ := List.getElem_of_mem hzm
    obtain ⟨z0, h1, q, rfl, h2, _⟩ := hz j _ (List.getElem?_eq_getElem hj)
    rw [h2]
    exact keepNil_fix q

theorem mcall_put (r : Rel B F w0 I0 s G a w) {h h' : Nat → Option (List AV)} {G' : Ghost} {w' : World} {x : AV} {v : Value} (hs : SubH h s.h)
    (hr : HRel h' G' w') (hn : NoSlot G') (ht : Turned (handed h G) w G' w') (hrep : Rep G'.imm x v) (hf : HandOK (fun g => w.heap.size ≤ g ∨ (handed h G).own g ≠ none) G' w' x v) (d : Option Tmp) :
    ∃ G'', Rel B F w0 I0 ({ s with h := mergeH s.h h h' }.put d x) G'' (a.put d v) w' := by
  have r1 := mcall_rel r hs hr hn ht
  cases d with
  | none => exact ⟨_, r1⟩
  | some d =>
    cases x with
    | sl tag rows =>
      cases tag with
      | live e sz pu =>
        rcases hf with hf | ⟨g, cap, cur, T, hy, ho, hge, hi, hpu, hh, hc⟩
        · exact ⟨_, r1.set d _ v hrep (.inl hf)⟩
        · have hlt : g < w'.heap.size := by
            rcases Nat.lt_or_ge g w'.heap.size with h' | h'
            · exact h'
            · simp [Array.getElem?_eq_none h'] at hh
          have hnot : ¬ (g < w.heap.size ∧ (handed h G).own g = none) := by
            rintro ⟨h1, h2⟩
            rcases hge with h3 | h3
            · omega
            · exact h3 h2
          have hB : B ≤ g ∨ F g := by
            rcases hge with h3 | h3
            · exact .inl (Nat.le_trans r.base h3)
            · cases hq : (handed h G).own g with
              | none => exact absurd hq h3
              | some o => exact r.ownB g o (handed_own hq)
          have r2 := r1.claim d g (by simp only [hnot, if_false]; exact ho) hB hlt
          exact ⟨_, r2.set d _ v hrep (.inr ⟨g, cap, cur, T, hy, by simp [upd], hi, hpu, hh, hc⟩)⟩
      | full => exact ⟨_, r1.set d _ v hrep hf⟩
      | no => exact ⟨_, r1.set d _ v hrep trivial⟩
      | nil => exact ⟨_, r1.set d _ v hrep trivial⟩
    | ob m g ob =>
      obtain ⟨ho, hge, hh⟩ := hf
      have hlt : g < w'.heap.size := by
        rcases Nat.lt_or_ge g w'.heap.size with h' | h'
        · exact h'
        · simp [Array.getElem?_eq_none h'] at hh
      have hnot : ¬ (g < w.heap.size ∧ (handed h G).own g = none) := by
        rintro ⟨h1, h2⟩
        rcases hge with h3 | h3
        · omega
        · exact h3 h2
      have hB : B ≤ g ∨ F g := by
        rcases hge with h3 | h3
        · exact .inl (Nat.le_trans r.base h3)
        · cases hq : (handed h G).own g with
          | none => exact absurd hq h3
          | some o => exact r.ownB g o (handed_own hq)
      have r2 := r1.claim d g (by simp only [hnot, if_false]; exact ho) hB hlt
      exact ⟨_, r2.set d _ v hrep ⟨by simp [upd], hh⟩⟩
    | _ => exact ⟨_, r1.set d _ v hrep trivial⟩

theorem Rep.flat0 {I I' : Imm} {x : AV} {y : Value} (h : Rep I x y) (hf : Rw.flat0 x = true) : Rep I' x y := by
  cases h <;> first | (simp [Rw.flat0] at hf; done) | constructor
  all_goals assumption
theorem Rep.flat1 {I I' : Imm} {x : AV} {y : Value} (h : Rep I x y) (hf : Rw.flat1 x = true) : Rep I' x y := by
  cases h with
  | agg cs hl hr =>
    refine .agg cs hl fun j x y hx hy => (hr j x y hx hy).flat0 ?_
    simp only [Rw.flat1, List.all_eq_true] at hf
    exact hf x (List.mem_of_getElem? hx)
  | v => exact .v _
  | ptr b o => exact .ptr b o
  | sm b o n c h1 h2 h3 => exact .sm b o n c h1 h2 h3
  | mn a => exact .mn a
  | _ => simp [Rw.flat1, Rw.flat0] at hf
theorem Rep.flat2 {I I' : Imm} {x : AV} {y : Value} (h : Rep I x y) (hf : Rw.flat2 x = true) : Rep I' x y := by
  cases h with
  | tup cs hl hr =>
    refine .tup cs hl fun j x y hx hy => (hr j x y hx hy).flat1 ?_
    simp only [Rw.flat2, List.all_eq_true] at hf
    exact hf x (List.mem_of_getElem? hx)
  | agg cs hl hr => exact (Rep.agg cs hl hr).flat1 hf
  | v => exact .v _
  | ptr b o => exact .ptr b o
  | sm b o n c h1 h2 h3 => exact .sm b o n c h1 h2 h3
  | mn a => exact .mn a
  | _ => simp [Rw.flat2, Rw.flat1, Rw.flat0] at hf
theorem FreshOK.flat2 {n : Nat} {I : Imm} {w : World} {x : AV} {y : Value} (hf : Rw.flat2 x = true) : FreshOK n I w x y := by
  cases x with
  | sl tag rows => simp [Rw.flat2, Rw.flat1, Rw.flat0] at hf
  | ob v k ob => simp [Rw.flat2, Rw.flat1, Rw.flat0] at hf
  | _ => trivial

/-- the rows lie in the block -/
def InB (I : Imm) (b : Nat) (rows : List (List AV)) (sz : Nat) : Prop := ∃ cs : List Value, Rows I rows sz cs ∧ ∀ k v, cs[k]? = some v → I b (0 + k) = some v

theorem Rep.frz0 {I I' : Imm} (hI : Sub I I') {b sz : Nat} {rows : List (List AV)} (hb : InB I' b rows sz) {x : AV} {y : Value} (h : Rep I x y) : Rep I' (Rw.frz0 b rows x) y := by
  cases h with
  | mn a => exact .mn a
  | empty t ht a c => exact .empty t ht a c
  | sm b' off n c h1 h2 hcm3 =>
    simp only [Rw.frz0]
    split
    · rename_i hc
      obtain ⟨rfl, rfl, h3⟩ := hc
      obtain ⟨cs, hr, hi⟩ := hb
      have hl : (rows.take n).length = n := by simp; omega
      have htk : ∀ (i : Nat) (r : List AV), (rows.take n)[i]? = some r → rows[i]? = some r := fun i r h => by
        rw [List.getElem?_take] at h; split at h
        · exact h
        · simp at h
      have ht : Rows I' (rows.take n) sz (cs.take (n * sz)) := by
        refine ⟨by rw [List.length_take, hl, hr.len]; exact Nat.min_eq_left (Nat.mul_le_mul_right _ h3), fun i r h => hr.each i r (htk i r h), fun i r j x h hx => hr.flag i r j x (htk i r h) hx, fun i r j x h hx => ?_⟩
        obtain ⟨v, hv, hrep⟩ := hr.rep i r j x (htk i r h) hx
        refine ⟨v, ?_, hrep⟩
        have h4 := lt_of_get h
        rw [hl] at h4
        have h5 := lt_of_get hx
        rw [hr.each i r (htk i r h)] at h5
        have h6 : i * sz + j < n * sz := by
          have : (i + 1) * sz ≤ n * sz := Nat.mul_le_mul_right _ (by omega)
          rw [Nat.add_mul] at this; omega
        rw [List.getElem?_take, if_pos h6]; exact hv
      have := ht.rep_sl (b := b') (o := 0) (cap := c) .no (by simp) (fun k v hk => by
        rw [List.getElem?_take] at hk
        split at hk
        · exact hi k v hk
        · simp at hk) (by rw [hl]; exact h2) (by rw [hl]; exact h1)
      rw [hl] at this
      exact this
    · exact .sm b' off n c h1 h2 hcm3
  | v => exact .v _
  | nil t => exact .nil t
  | sl s c ht hcap hlen hs hk hi hr => exact (Rep.sl s c ht hcap hlen hs hk hi hr).mono hI
  | ea c hi hr => exact (Rep.ea c hi hr).mono hI
  | ptr b o => exact .ptr b o
  | agg cs hl hr => exact (Rep.agg cs hl hr).mono hI
  | tup cs hl hr => exact (Rep.tup cs hl hr).mono hI
  | fn cs hl hr => exact (Rep.fn cs hl hr).mono hI
  | ob m k ob => exact .ob m k ob
theorem Rep.frz1 {I I' : Imm} (hI : Sub I I') {b sz : Nat} {rows : List (List AV)} (hb : InB I' b rows sz) {x : AV} {y : Value} (h : Rep I x y) : Rep I' (Rw.frz1 b rows x) y := by
  cases x with
  | agg cells =>
    cases h with
    | agg cs hl hr =>
      refine .agg cs (by simp [hl]) fun j x y hx hy => ?_
      simp only [List.getElem?_map] at hx
      cases hz : cells[j]? with
      | none => simp [hz] at hx
      | some z => simp [hz] at hx; subst hx; exact (hr j z y hz hy).frz0 hI hb
  | _ => exact h.frz0 hI hb
theorem Rep.frz2 {I I' : Imm} (hI : Sub I I') {b sz : Nat} {rows : List (List AV)} (hb : InB I' b rows sz) {x : AV} {y : Value} (h : Rep I x y) : Rep I' (Rw.frz2 b rows x) y := by
  cases x with
  | tup vs =>
    cases h with
    | tup cs hl hr =>
      refine .tup cs (by simp [hl]) fun j x y hx hy => ?_
      simp only [List.getElem?_map] at hx
      cases hz : vs[j]? with
      | none => simp [hz] at hx
      | some z => simp [hz] at hx; subst hx; exact (hr j z y hz hy).frz1 hI hb
  | _ => exact h.frz1 hI hb

theorem getElem?_flatten_rows {α : Type} {rows : List (List α)} {sz : Nat} (hs : ∀ r ∈ rows, r.length = sz) {i j : Nat} {r : List α} {x : α} (hi : rows[i]? = some r) (hj : r[j]? = some x) : rows.flatten[i * sz + j]? = some x := by
  induction rows generalizing i with
  | nil => simp at hi
  | cons r0 rest ih =>
    have h0 := hs r0 (by simp)
    rw [List.flatten_cons]
    cases i with
    | zero =>
      simp at hi; subst hi
      rw [Nat.zero_mul, Nat.zero_add, List.getElem?_append_left (lt_of_get hj)]; exact hj
    | succ i =>
      rw [List.getElem?_append_right (by rw [h0, Nat.add_mul]; omega), h0, show (i + 1) * sz + j - sz = i * sz + j by rw [Nat.add_mul]; omega]
      exact ih (fun r hr => hs r (by simp [hr])) (by simpa using hi)

/-- an object's cells lie as rows -/
theorem chunks_in {G : Ghost} {b sz : Nat} {cells : List AV} {rows : List (List AV)} (hc : chunks cells rows sz) {arr : Array Value} (hsz : arr.size = cells.length)
    (hr : ∀ (j : Nat) (x : AV) (y : Value), cells[j]? = some x → arr[j]? = some y → Rep G.imm x y) {I' : Imm} (hI : Sub G.imm I') (hb : ∀ i, i < rows.length * sz → I' b i = arr[i]?) : InB I' b rows sz := by
  obtain ⟨h1, h2, h3, h4⟩ := hc
  refine ⟨arr.toList.take (rows.length * sz), ⟨?_, fun i r h => h1 r (List.mem_of_getElem? h), fun i r j x h hx => h4 r (List.mem_of_getElem? h) x (List.mem_of_getElem? hx), fun i r j x h hx => ?_⟩, fun k v hk => ?_⟩
  · have hal : arr.toList.length = cells.length := by simpa using hsz
    rw [List.length_take, hal]; exact Nat.min_eq_left h3
  · have h5 := getElem?_flatten_rows h1 h hx
    have h6 := lt_of_get h
    have h7 := lt_of_get hx
    rw [h1 r (List.mem_of_getElem? h)] at h7
    have h8 : i * sz + j < rows.length * sz := by
      have : (i + 1) * sz ≤ rows.length * sz := Nat.mul_le_mul_right _ (by omega)
      rw [Nat.add_mul] at this; omega
    rw [h2, List.getElem?_map, List.getElem?_take, if_pos h8] at h5
    have h9 : i * sz + j < arr.size := by omega
    refine ⟨arr[i * sz + j], by rw [List.getElem?_take, if_pos h8]; simp [h9], ?_⟩
    have h10 : i * sz + j < cells.length := by omega
    rw [List.getElem?_eq_getElem h10] at h5
    simp only [Option.map_some, Option.some.injEq] at h5
    rw [← h5]
    exact ((hr _ _ _ (List.getElem?_eq_getElem h10) (by simp [h9])).dead).mono hI
  · rw [List.getElem?_take] at hk
    split at hk
    · rename_i hlt
      rw [Nat.zero_add, hb k hlt]; simpa using hk
    · simp at hk

/-- A call whose arguments' memory is lent, as rows, for the call. -/
theorem lend_call (r : Rel B F w0 I0 s G a w) {b sz : Nat} {cells : List AV} {rows : List (List AV)} (hb : s.h b = some cells) (hc : chunks cells rows sz) {g : FuncId} {args : List AV} {cargs : List Value} (ha : Reps G.imm args cargs) {R : AV → Prop}
    (hspec : ASpec P g (args.map (Rw.frz2 b rows)) R) (hfl : ∀ r, R r → Rw.flat2 r = true) :
    NextUpon P (fun e w' => ∃ v q I', e = .returned v ∧ R q ∧ Ext w G.imm w' I' ∧ Rep I' q v ∧ FreshOK w.heap.size I' w' q v) ((callFunc g cargs.toArray).run P w) := by
  obtain ⟨ho, arr, T, hh, hsz, hcells⟩ := r.hrel.obj b cells hb
  have hex := r.hrel.excl b ho
  have hsub : Sub G.imm (fun k i => if k = b then (if i < rows.length * sz then arr[i]? else none) else G.imm k i) := fun k i v hk => by
    by_cases hkb : k = b
    · subst hkb; rw [hex i] at hk; simp at hk
    · simp only [hkb, if_false]; exact hk
  have hin := chunks_in (b := b) hc hsz (fun j x y hx hy => (hcells j x y hx hy).1) hsub (fun i hi => by simp [hi])
  have hI : ∀ k i v, (fun k i => if k = b then (if i < rows.length * sz then arr[i]? else none) else G.imm k i : Imm) k i = some v → w.cell? ⟨k, i, none⟩ = some v := fun k i v hk => by
    simp only at hk
    split at hk
    · rename_i hkb; subst hkb
      split at hk
      · simp [World.cell?, hh, hk]
      · simp at hk
    · exact r.hrel.imm k i v hk
  have hargs : Reps (fun k i => if k = b then (if i < rows.length * sz then arr[i]? else none) else G.imm k i) (args.map (Rw.frz2 b rows)) cargs := by
    refine ⟨by simp [ha.1], fun j x y hx hy => ?_⟩
    simp only [List.getElem?_map] at hx
    cases hz : args[j]? with
    | none => simp [hz] at hx
    | some z => simp [hz] at hx; subst hx; exact (ha.2 j z y hz hy).frz2 hsub hin
  have := hspec _ w cargs hI hargs
  generalize (callFunc g cargs.toArray).run P w = q at *
  have conv : ∀ e w', (∃ v r I', e = .returned v ∧ R r ∧ Ext w (fun k i => if k = b then (if i < rows.length * sz then arr[i]? else none) else G.imm k i) w' I' ∧ Rep I' r v ∧ FreshOK w.heap.size I' w' r v) →
      ∃ v r I', e = Ending.returned v ∧ R r ∧ Ext w G.imm w' I' ∧ Rep I' r v ∧ FreshOK w.heap.size I' w' r v := by
    rintro e w' ⟨v, x, I', he, hR, hext, hrep, hfr⟩
    refine ⟨v, x, fun k i => if k = b then none else I' k i, he, hR, ⟨hext.heap, hext.size, fun k hk => ?_, fun k i v hk => ?_, hext.calm⟩, hrep.flat2 (hfl x hR), FreshOK.flat2 (hfl x hR)⟩
    · funext i
      by_cases hkb : k = b
      · subst hkb; simp [hex i]
      · simp only [hkb, if_false]; rw [hext.old k hk]; simp [hkb]
    · by_cases hkb : k = b
      · simp [hkb] at hk
      · simp only [hkb, if_false] at hk; exact hext.imm k i v hk
  cases q with
  | ok n w' =>
    cases n <;> simp only [NextUpon] at this ⊢
    · exact conv _ _ this
    · exact this.mono fun e w'' => conv e w''
  | halt x w' => exact this

/-- New memory is taken as one's own to write. -/
theorem thaw_put (r : Rel B F w0 I0 s G a w) {w' : World} {I' : Imm} {e sz : Nat} {pu : Bool} {rows : List (List AV)} {v : Value} (he : Ext w G.imm w' I') (hrep : Rep I' (.sl (.live e sz pu) rows) v) (hf : FreshOK w.heap.size I' w' (.sl (.live e sz pu) rows) v)
    (hne : rows ≠ []) (hpf : pu = true ∨ ∀ r ∈ rows, ∀ x ∈ r, Rw.flat0 x = true) (d : Option Tmp) {K : ASt → Prop}
    (hk : ∀ (b cap : Nat) (spare : List Value), s.h b = none → rows.length ≤ cap → spare.length + rows.length * sz = cap * sz → K ({ s with h := upd s.h b (some (rows.flatten.map dead1 ++ spare.map AV.v)) }.put d (.sm b 0 rows.length cap))) :
    ∃ s' G', K s' ∧ Rel B F w0 I0 s' G' (a.put d v) w' := by
  rcases hf with ⟨h, _⟩ | ⟨g, cap, cur, T, hy, hn, hi, hpu, hh, hcap, hcm, hcz, hrs⟩
  · exact absurd h hne
  have hgs : ∀ k i u, G.imm k i = some u → k ≠ g := fun k i u hk => by have := cell_lt (r.hrel.imm k i u hk); omega
  have hext : Ext w G.imm w' (fun k i => if k = g then none else I' k i) := ⟨he.heap, he.size, fun k hk => by
    funext i
    have : k ≠ g := by omega
    simp only [this, if_false]; rw [he.old k hk], fun k i u hk => by
    by_cases hkg : k = g
    · simp [hkg] at hk
    · simp only [hkg, if_false] at hk; exact he.imm k i u hk, he.calm⟩
  have r1 := r.ext hext
  have hsub := hext.sub r.hrel.imm
  -- the cells
  have hno : s.h g = none := by
    cases hq : s.h g with
    | none => rfl
    | some c => obtain ⟨ho, _⟩ := r.hrel.obj g c hq; have := r.hrel.own g _ ho; omega
  have hglt : g < w'.heap.size := by
    rcases Nat.lt_or_ge g w'.heap.size with h | h
    · exact h
    · simp [Array.getElem?_eq_none h] at hh
  have hown : G.own g = none := by
    cases hq : G.own g with
    | none => rfl
    | some o => have := r.hrel.own g o hq; omega
  have hflen : rows.flatten.length = rows.length * sz := by
    clear hi hpu hcap hcz hk hpf hne hrep hy
    induction rows with
    | nil => simp
    | cons r0 rest ih => rw [List.flatten_cons, List.length_append, ih (fun r hr => hrs r (by simp [hr])), hrs r0 (by simp), List.length_cons, Nat.add_mul]; omega
  have hcells : ∀ (k : Nat) (x : AV), rows.flatten[k]? = some x → ∃ u : Value, cur[k]? = some u ∧ Rep (fun k i => if k = g then none else I' k i) x u := by
    intro k x hx
    have hk1 := lt_of_get hx
    rw [hflen] at hk1
    have hpos : 0 < sz := by
      rcases Nat.eq_zero_or_pos sz with h0 | h0
      · rw [h0] at hk1; simp at hk1
      · exact h0
    have h1 : k / sz < rows.length := (Nat.div_lt_iff_lt_mul hpos).2 hk1
    have h2 := Nat.mod_lt k hpos
    have h3 := hrs rows[k / sz] (List.getElem_mem h1)
    have h4 : k % sz < rows[k / sz].length := by omega
    have e1 : k / sz * sz + k % sz = k := by have := Nat.div_add_mod k sz; rw [Nat.mul_comm] at this; exact this
    have h5 := getElem?_flatten_rows hrs (i := k / sz) (j := k % sz) (List.getElem?_eq_getElem h1) (List.getElem?_eq_getElem h4)
    rw [e1, hx] at h5
    have h5 := Option.some.inj h5
    subst h5
    rcases hpf with hp | hp
    · have := hpu hp (k / sz) rows[k / sz] (k % sz) _ (List.getElem?_eq_getElem h1) (List.getElem?_eq_getElem h4)
      rw [e1] at this; exact this
    · subst hy
      obtain ⟨_, _, _, bb, o, hbo, cs, hro, hcs⟩ := Rows.of_rep hrep hrs (.inl rfl)
      injection hbo with q1 q2
      subst q1; subst q2
      obtain ⟨u, hu, hru⟩ := hro.rep (k / sz) rows[k / sz] (k % sz) _ (List.getElem?_eq_getElem h1) (List.getElem?_eq_getElem h4)
      rw [e1] at hu
      have h6 := he.imm g (0 + k) u (hcs k u hu)
      refine ⟨u, by simpa [World.cell?, hh] using h6, hru.flat0 (hp _ (List.getElem_mem h1) _ (List.getElem_mem h4))⟩
  obtain ⟨spare, hspare⟩ : ∃ spare : List Value, spare = cur.toList.drop (rows.length * sz) := ⟨_, rfl⟩
  have hsl : spare.length + rows.length * sz = cap * sz := by
    have : rows.length * sz ≤ cap * sz := Nat.mul_le_mul_right _ hcap
    rw [hspare, List.length_drop, Array.length_toList, hcz]; omega
  have hrel : Rel B F w0 I0 { s with h := upd s.h g (some (rows.flatten.map dead1 ++ spare.map AV.v)) } { imm := fun k i => if k = g then none else I' k i, own := upd G.own g (some .obj) } a w' := by
    have live : ∀ (p : Own) (x : AV) (y : Value), LiveOK { G with imm := fun k i => if k = g then none else I' k i } w' p x y → LiveOK { imm := fun k i => if k = g then none else I' k i, own := upd G.own g (some .obj) } w' p x y := by
      intro p x y h
      cases x with
      | sl tag rows' =>
        cases tag with
        | live e' sz' pu' =>
          rcases h with h | ⟨k, cap', cur', T', hy', ho', hi', hpu', hh', hc'⟩
          · exact .inl h
          · have hkg : k ≠ g := by rintro rfl; have ho2 : G.own k = some p := ho'; rw [hown] at ho2; simp at ho2
            exact .inr ⟨k, cap', cur', T', hy', by simp only [upd, hkg, if_false]; exact ho', hi', hpu', hh', hc'⟩
        | full => exact h
        | _ => trivial
      | ob v k ob =>
        obtain ⟨ho', hh'⟩ := h
        have hkg : k ≠ g := by rintro rfl; have ho2 : G.own k = some p := ho'; rw [hown] at ho2; simp at ho2
        exact ⟨by simp only [upd, hkg, if_false]; exact ho', hh'⟩
      | _ => trivial
    refine ⟨⟨r1.hrel.imm, fun k c hkc => ?_, fun k hko i => ?_, fun k o hko => ?_⟩, r1.size, fun i => ⟨(r1.tmps i).1, live _ _ _ (r1.tmps i).2⟩, r1.defers, r1.below, r1.base, fun k o hko => ?_, r1.immB, r1.sub0, r1.calm⟩
    · simp only [upd] at hkc
      split at hkc
      · rename_i hkg; subst hkg
        obtain rfl := Option.some.inj hkc
        refine ⟨by simp [upd], cur, T, hh, ?_, fun j x y hx hy' => ?_⟩
        · rw [List.length_append, List.length_map, List.length_map, hflen, hcz]; omega
        · rw [List.getElem?_append] at hx
          split at hx
          · rw [List.getElem?_map] at hx
            cases hz : rows.flatten[j]? with
            | none => simp [hz] at hx
            | some z =>
              simp [hz] at hx; subst hx
              obtain ⟨u, hu, hru⟩ := hcells j z hz
              rw [hu] at hy'
              obtain rfl := Option.some.inj hy'
              exact ⟨hru.dead, LiveOK.dead _ _⟩
          · rename_i hge
            rw [List.length_map, hflen] at hge hx
            rw [List.getElem?_map, hspare, List.getElem?_drop, show rows.length * sz + (j - rows.length * sz) = j by omega] at hx
            simp only [Array.getElem?_toList, hy', Option.map_some, Option.some.injEq] at hx
            subst hx
            exact ⟨.v _, trivial⟩
      · rename_i hkg
        obtain ⟨ho, arr, T', q1, q2, q3⟩ := r1.hrel.obj k c hkc
        exact ⟨by simp only [upd, hkg, if_false]; exact ho, arr, T', q1, q2, fun j x y hx hy' => ⟨(q3 j x y hx hy').1, live _ _ _ (q3 j x y hx hy').2⟩⟩
    · simp only [upd] at hko
      show (if k = g then none else I' k i) = none
      split at hko
      · rename_i hkg; simp [hkg]
      · exact r1.hrel.excl k hko i
    · simp only [upd] at hko
      split at hko
      · rename_i hkg; subst hkg; exact hglt
      · exact r1.hrel.own k o hko
    · simp only [upd] at hko
      split at hko
      · rename_i hkg; subst hkg; exact .inl (Nat.le_trans r.base hn)
      · exact r1.ownB k o hko
  subst hy
  have hml : rows.length ≤ maxLen := by
    cases hrep <;> first | assumption | exact absurd rfl hne
  exact ⟨_, _, hk g cap spare hno hcap hsl, hrel.put d _ _ (.sm g 0 rows.length cap hcap hml hcm) (fun d' _ => trivial)⟩

theorem NextUpon.wp {o : Oper} {K : Act → World → Prop} {Q : Exit → Act → World → Prop} {q : Result Next} (hq : (execOp a.eval o).run P w = q) {Post : Ending → World → Prop}
    (h : NextUpon P Post q) (hk : ∀ e w', Post e w' → ∃ v, e = .returned v ∧ K (a.put o.dst v) w') : o.wp P a w K Q := by
  unfold Oper.wp
  rw [hq]
  cases q with
  | ok n w' =>
    cases n <;> simp only [NextUpon] at h
    · obtain ⟨v, hv, hk'⟩ := hk _ _ h
      injection hv with hv
      subst hv
      exact hk'
    · refine h.mono fun e w'' he => ?_
      obtain ⟨v, rfl, hk'⟩ := hk _ _ he
      exact hk'
  | halt x w' => exact h.elim

theorem LiveOK_c2a {G : Ghost} {w : World} {p : Own} (c : Value) (y : Value) : LiveOK G w p (c2a c) y := by
  unfold c2a
  split <;> simp [LiveOK]

theorem killAt_put_n (s : ASt) (p : Own) : (s.killAt p).n = s.n := by
  cases p with
  | slot i => simp only [ASt.killAt, ASt.kill, ASt.set]; split <;> rfl
  | _ => rfl

theorem equalIn_nil (d : Nat) {t e : TypeId} (hu : P.underlying t = some (.slice e)) (ad : Option Addr) (n c : Nat) :
    (Op.equalIn (d + 1) t (.slice ad n c) (.slice none 0 0)).run P w = .ok ad.isNone w := by
  cases ad <;> simp [Op.equalIn, run_underlying hu]

theorem aop_sound {ops : List Oper} {o : Oper} {K : ASt → Prop} {Q : Exit → Act → World → Prop} (r : Rel B F w0 I0 s G a w) (h : aop P ops o s K) :
    o.wp P a w (At B F w0 I0 a.tmps.size K) Q := by
  have value : ∀ {x : AV}, aval P s.ev s.h o.op = some x → K (s.put o.dst x) → o.wp P a w (At B F w0 I0 a.tmps.size K) Q := fun ha hk => aval_step (ops := ops) r ha hk
  -- a slot's value goes over into another slot
  have hand : ∀ t, (execOp a.eval o).run P w = .ok (.value (a.eval (.tmp t))) w → K ((s.kill t).put o.dst (s.t t)) → o.wp P a w (At B F w0 I0 a.tmps.size K) Q := by
    intro t hrun hk
    refine Oper.wp_value hrun ?_
    cases hd : o.dst with
    | none =>
      rw [hd] at hk
      exact ⟨_, _, hk, r.kill t, rfl⟩
    | some d =>
      rw [hd] at hk
      obtain ⟨G', r', h1, h2, _⟩ := r.take (.slot t) (.slot d) (by simp) (by simp) (r.tmps t).1 (r.tmps t).2
      exact ⟨_, _, hk, r'.set d _ _ h1 h2, put_size _ _ _⟩
  -- a new object
  have fresh : ∀ (cells : List AV) (y : Value) (T : TypeId), CR G.imm cells y.cells → (∀ x ∈ cells, dead1 x = x ∨ x = .sl .nil []) →
      (execOp a.eval o).run P w = .ok (.value (.pointer (some ⟨w.heap.size, 0, none⟩))) (w.alloc (.cells y.cells T)) →
      (∀ b, s.h b = none → K ({ s with h := upd s.h b (some cells) }.put o.dst (.ptr b 0))) → o.wp P a w (At B F w0 I0 a.tmps.size K) Q := by
    intro cells y T hc hd hrun hk
    obtain ⟨hnone, G', r', _⟩ := r.newObj (w1 := w) rfl (Calm.refl w) cells y.cells T hc hd
    exact Oper.wp_value hrun ⟨_, _, hk _ hnone, r'.put o.dst _ _ (.ptr _ _) (fun _ _ => trivial), put_size _ _ _⟩
  obtain ⟨dst, op, type, pos, after, guard⟩ := o
  simp only at value hand fresh
  cases op with
  | assign x =>
    cases x with
    | tmp t => exact hand t rfl h
    | const c =>
      exact Oper.wp_value (o := ⟨dst, .assign (.const c), type, pos, after, guard⟩) rfl ⟨_, _, h, r.put dst _ _ (r.ev (.const c)) (fun d _ => LiveOK_c2a c _), put_size _ _ _⟩
    | global g => exact Oper.wp_value (o := ⟨dst, .assign (.global g), type, pos, after, guard⟩) rfl ⟨_, _, h, r.put dst _ _ (r.ev (.global g)) (fun d _ => trivial), put_size _ _ _⟩
    | func f => exact Oper.wp_value (o := ⟨dst, .assign (.func f), type, pos, after, guard⟩) rfl ⟨_, _, h, r.put dst _ _ (r.ev (.func f)) (fun d _ => trivial), put_size _ _ _⟩
  | move x =>
    cases x with
    | tmp t =>
      simp only [aop] at h
      split at h
      · exact hand t rfl h
      · exact value (x := dead1 (s.t t)) rfl h
    | const c =>
      exact Oper.wp_value (o := ⟨dst, .move (.const c), type, pos, after, guard⟩) rfl ⟨_, _, h, r.put dst _ _ (r.ev (.const c)) (fun d _ => LiveOK_c2a c _), put_size _ _ _⟩
    | global g => exact Oper.wp_value (o := ⟨dst, .move (.global g), type, pos, after, guard⟩) rfl ⟨_, _, h, r.put dst _ _ (r.ev (.global g)) (fun d _ => trivial), put_size _ _ _⟩
    | func f => exact Oper.wp_value (o := ⟨dst, .move (.func f), type, pos, after, guard⟩) rfl ⟨_, _, h, r.put dst _ _ (r.ev (.func f)) (fun d _ => trivial), put_size _ _ _⟩
  | load t x =>
    simp only [aop] at h
    split at h
    · rename_i q hq
      split at hq
      · -- the field's own slice
        unfold aloadOwn at hq
        split at hq
        · rename_i n hv
          split at hq
          · rename_i b off hev
            cases hb : s.h b with
            | none => simp [hb] at hq
            | some cells =>
              simp only [hb] at hq
              cases hc : cells[off]? with
              | none => simp [hc] at hq
              | some z =>
                simp only [hc] at hq
                split at hq
                · obtain rfl := Option.some.inj hq
                  simp only at h
                  obtain ⟨ho, arr, T, hh, hsz, hcells⟩ := r.hrel.obj b cells hb
                  have hlt := lt_of_get hc
                  have hlt' : off < arr.size := by omega
                  obtain ⟨hrep, hlive⟩ := hcells off z arr[off] hc (by simp [hlt'])
                  have hx := r.ev x
                  rw [hev] at hx
                  obtain ⟨i, dd, hinf, _, hisz, hag⟩ := vT_some (w := w) hv
                  have hrun : (execOp a.eval ⟨dst, .load t x, type, pos, after, guard⟩).run P w = .ok (.value arr[off]) w := by
                    refine exec_value (x := Instr.loadAt t (a.eval x)) rfl ?_
                    generalize hy : a.eval x = y at hx
                    cases hx
                    simp [Instr.loadAt, Instr.sureAddr, loadVar, hag, World.cell?, hh, hlt']
                  refine Oper.wp_value hrun ?_
                  cases dst with
                  | none => exact ⟨(s.killAt (.cell b off)).put none z, G, h, r.killAt (.cell b off), rfl⟩
                  | some d =>
                    obtain ⟨G', r', h1, h2, _⟩ := r.take (.cell b off) (.slot d) (by simp) (by simp) hrep hlive
                    exact ⟨_, _, h, r'.set d _ _ h1 h2, put_size _ _ _⟩
                · simp at hq
          · simp at hq
        · simp at hq
      · simp at hq
    · split at h
      · rename_i q hq; exact value hq h
      · exact h.elim
  | alloc e =>
    simp only [aop] at h
    split at h
    · rename_i z hz
      obtain ⟨i, v, hi, hzv, hcr, hdl⟩ := zT_nl (I := G.imm) hz
      refine fresh (z.map nl) v e hcr hdl ?_ h
      · refine exec_value (x := Instr.alloc e true (.tuple #[])) rfl ?_
        simp [Instr.alloc, zeroValue, typeInfo, hi, hzv, newVar, newRow]
    · exact h.elim
  | box e x =>
    simp only [aop] at h
    split at h
    · rename_i cs hcs
      obtain ⟨hcr, hflag, hfix⟩ := aCellsK_sound (r.ev x) hcs
      refine fresh cs (a.eval x) e hcr hfix ?_ h
      · exact exec_value (x := Instr.box e (a.eval x)) rfl (by simp [Instr.box, newVar, newRow])
    · exact h.elim
  | binOp op t x y yt =>
    simp only [aop] at h
    split at h
    · rename_i neg tag rows hneg hev
      obtain ⟨hs, hk⟩ := h
      obtain ⟨e, he⟩ := Option.isSome_iff_exists.1 hs
      obtain ⟨inf, hu, _⟩ := slT_some he
      have hx := r.ev x
      rw [hev] at hx
      have hsame : ∀ b : Bool, (b = true → rows = []) → (execOp a.eval ⟨dst, .binOp op t x y yt, type, pos, after, guard⟩).run P w = .ok (.value (.bool (neg != b))) w →
          Oper.wp P ⟨dst, .binOp op t x y yt, type, pos, after, guard⟩ a w (At B F w0 I0 a.tmps.size K) Q := fun b hb hrun =>
        Oper.wp_value hrun ⟨_, _, hk b hb, r.put dst _ _ (.v _) (fun _ _ => trivial), put_size _ _ _⟩
      have heq : ∀ (ad : Option Addr) (n c : Nat), (Op.equal t (.slice ad n c) (.slice none 0 0)).run P w = .ok ad.isNone w := fun ad n c => by
        exact equalIn_nil 9999 hu ad n c
      have hrun : ∀ (ad : Option Addr) (n c : Nat), a.eval x = .slice ad n c → (execOp a.eval ⟨dst, .binOp op t x y yt, type, pos, after, guard⟩).run P w = .ok (.value (.bool (neg != ad.isNone))) w := by
        intro ad n c hax
        unfold isNilTest at hneg
        split at hneg
        · obtain rfl := Option.some.inj hneg
          have hb : Go.binOp .eql t (.slice ad n c) (.slice none 0 0) = (do let b ← Op.equal t (.slice ad n c) (.slice none 0 0); pure (.bool b)) := rfl
          have hy : a.eval (.const (.slice none 0 0)) = .slice none 0 0 := rfl
          simp [execOp, hax, hy, eqGuard_at_slice, hb, heq]
        · obtain rfl := Option.some.inj hneg
          have hb : Go.binOp .neq t (.slice ad n c) (.slice none 0 0) = (do let b ← Op.equal t (.slice ad n c) (.slice none 0 0); pure (.bool (!b))) := rfl
          have hy : a.eval (.const (.slice none 0 0)) = .slice none 0 0 := rfl
          simp [execOp, hax, hy, eqGuard_at_slice, hb, heq]
        · simp at hneg
      generalize hq : a.eval x = q at hx
      cases hx with
      | nil => exact hsame true (fun _ => rfl) (hrun none 0 0 hq)
      | empty _ _ a c => exact hsame false (fun h => by simp at h) (hrun _ _ _ hq)
      | sl s' c ht hcap hlen hs' hkk hi hr => exact hsame false (fun h => by simp at h) (hrun _ _ _ hq)
    · split at h
      · rename_i q hq; exact value hq h
      · exact h.elim
  | store t x y =>
    simp only [aop] at h
    split at h
    · rename_i b off n hev hv
      split at h
      · rename_i cells cs hb hcs
        obtain ⟨hdst, hl1, hl2, hk⟩ := h
        subst hdst
        obtain ⟨ho, arr, T, hh, hsz, hcells⟩ := r.hrel.obj b cells hb
        obtain ⟨hcr, hflag, hfix⟩ := aCellsK_sound (r.ev y) hcs
        have hx := r.ev x
        rw [hev] at hx
        have hone : ∀ v ∈ (a.eval y).cells, v.oneCell' = true := fun v hv' => by
          obtain ⟨j, hj, rfl⟩ := Array.getElem_of_mem hv'
          have hj' : j < cs.length := by rw [hcr.1]; exact hj
          exact oneCell_of (hcr.2 j cs[j] _ (by simp [hj']) (by simp [hj])) (hflag _ (List.getElem_mem hj'))
        have hrun : (execOp a.eval ⟨none, .store t x y, type, pos, after, guard⟩).run P w =
            .ok .skip (w.setRow b (arr.toList.take off ++ (a.eval y).cells.toList ++ arr.toList.drop (off + (a.eval y).cells.size)).toArray) := by
          have hs := run_storeVar (P := P) (w := w) hv hh (off := off) (a.eval y) (by rw [← hcr.1]; exact hl1) (by rw [← hcr.1]; omega) hone
          generalize hy : a.eval x = z at hx
          cases hx
          simp only [execOp, Instr.storeAt, hy, Instr.sureAddr, Sem.run_bind, Sem.run_pure, Result.andThen_ok, hs]
        have hskip : ∀ {K' : Act → World → Prop}, K' a (w.setRow b (arr.toList.take off ++ (a.eval y).cells.toList ++ arr.toList.drop (off + (a.eval y).cells.size)).toArray) →
            Oper.wp P ⟨none, .store t x y, type, pos, after, guard⟩ a w K' Q := fun hk' => by unfold Oper.wp; rw [hrun]; exact hk'
        split at hk
        · -- a slice: the right to write goes into the object
          rename_i ty tag rows hevy
          have hty : s.t ty = .sl tag rows := hevy
          have htm := r.tmps ty
          rw [hty] at htm
          obtain ⟨G', r', h1, h2, himm, hobj'⟩ := r.take (.slot ty) (.cell b off) (by simp) (by simp) htm.1 htm.2
          have hcs' : cs.length = 1 := by
            rw [hevy] at hcs
            simp [aCellsK, cellAV] at hcs
            rw [← hcs]; rfl
          have hyc : (a.eval (.tmp ty)).cells = #[a.eval (.tmp ty)] := by
            have h3 := htm.1
            change Rep G.imm _ (a.eval (.tmp ty)) at h3
            generalize a.eval (.tmp ty) = z at h3
            cases h3 <;> rfl
          have hb' : (s.kill ty).h b = some cells := by
            have : (s.kill ty).h = s.h := by simp only [ASt.kill, ASt.set]; split <;> rfl
            rw [this]; exact hb
          have hcr' : CR G'.imm [.sl tag rows] (a.eval (.tmp ty)).cells := by
            rw [hyc]
            refine ⟨rfl, fun j x y hx hy => ?_⟩
            cases j with
            | zero => simp at hx hy; subst hx; subst hy; exact h1
            | succ j => simp at hx
          have hst := r'.storeObj hb' off hcr' (by rw [hcs'] at hl2; exact hl2) (fun j x y hx hy => by
            rw [hyc] at hy
            cases j with
            | zero => simp at hx hy; subst hx; subst hy; exact h2
            | succ j => simp at hx) hh
          rw [show (s.killAt (.slot ty)).h = s.h by simp only [ASt.killAt, ASt.kill, ASt.set]; split <;> rfl] at hst
          exact hskip ⟨_, _, hk, hst, rfl⟩
        · have hst := r.storeObj hb off hcr hl2 (fun j x y hx hy => by
            rcases hfix x (List.mem_of_getElem? hx) with hd | hd
            · exact LiveOK.of_dead hd
            · subst hd; trivial) hh
          exact hskip ⟨_, _, hk, hst, rfl⟩
      · exact h.elim
    · exact h.elim
  | call c =>
    obtain ⟨callee, args, argTypes⟩ := c
    simp only [aop] at h
    cases callee with
    | value f =>
      simp only at h
      split at h
      · rename_i g cap hev
        have hf := r.ev f
        rw [hev] at hf
        generalize hy : a.eval f = y at hf
        cases hf with
        | fn cs hl hr =>
          have hrun : (execOp a.eval ⟨dst, .call ⟨.value f, args, argTypes⟩, type, pos, after, guard⟩).run P w = (callFunc g (args.toList.map a.eval ++ cs).toArray).run P w := by
            simp only [execOp, resolve, hy, Deferred.ofValue, Sem.run_bind, Sem.run_pure, Result.andThen_ok, invoke]
            congr 2
            simp
          have go : ∀ args0 : List AV, Reps G.imm args0 (args.toList.map a.eval) → ACall P g (args0 ++ cap) s dst K → Oper.wp P ⟨dst, .call ⟨.value f, args, argTypes⟩, type, pos, after, guard⟩ a w (At B F w0 I0 a.tmps.size K) Q := by
            intro args0 hr0 h
            have hreps := cell_reps hr0 cap cs ⟨hl, hr⟩
            rcases h with ⟨R, hspec, hk⟩ | ⟨h, R, hs, hspec, hk⟩ | ⟨b, cells, rows, sz, R, hb, hc, hspec, hk⟩
            · refine NextUpon.wp hrun (hspec G.imm w _ r.hrel.imm hreps) fun e w' ⟨v, q, I', he, hR, hext, hrep, hfr⟩ => ⟨v, he, ?_⟩
              rcases hk q hR with hk | ⟨e1, sz, pu, rows, rfl, hne, hpf, hk⟩
              · obtain ⟨G', r'⟩ := call_put r hext hrep hfr dst
                obtain ⟨s'', G'', hk', r''⟩ := hk B F w0 I0 G' _ w' r'
                exact ⟨s'', G'', hk', r'', put_size _ _ _⟩
              · obtain ⟨s'', G'', hk', r''⟩ := thaw_put r hext hrep hfr hne hpf dst hk
                exact ⟨s'', G'', hk', r'', put_size _ _ _⟩
            · refine NextUpon.wp hrun (hspec (handed h G) w _ (r.hrel.handed hs) (handed_noSlot h G) hreps) fun e w' ⟨v, q, h', G', he, hR, hrel, hno, htu, hrep, hfr⟩ => ⟨v, he, ?_⟩
              obtain ⟨G'', r'⟩ := mcall_put r hs hrel hno htu hrep hfr dst
              obtain ⟨s'', G'', hk', r''⟩ := hk q h' hR (mcall_fresh r hrel htu) B F w0 I0 _ _ w' r'
              exact ⟨s'', G'', hk', r'', put_size _ _ _⟩
            · refine NextUpon.wp hrun (lend_call r hb hc hreps hspec fun q hq => (hk q hq).1) fun e w' ⟨v, q, I', he, hR, hext, hrep, hfr⟩ => ⟨v, he, ?_⟩
              obtain ⟨G', r'⟩ := call_put r hext hrep hfr dst
              obtain ⟨s'', G'', hk', r''⟩ := (hk q hR).2 B F w0 I0 G' _ w' r'
              exact ⟨s'', G'', hk', r'', put_size _ _ _⟩
          rcases h with h | h
          · exact go _ (args_reps r args.toList) h
          · exact go _ (argN_reps r args.toList) h
      · exact h.elim
    | invoke rv m => exact h.elim
    | builtin b =>
      by_cases hb : b = .append
      · subst hb
        simp only at h
        split at h
        · rename_i tx y t t' hargs hts
          have ha' : args = #[.tmp tx, y] := by rw [← Array.toArray_toList (xs := args), hargs]
          have ht' : argTypes = #[t, t'] := by rw [← Array.toArray_toList (xs := argTypes), hts]
          subst ha'; subst ht'
          split at h
          · rename_i htt
            split at h
            · rename_i tag rows tag2 rows2 e htx hev hsl
              obtain ⟨⟨rfl, hok, hp1, hp2, hz⟩, h1, h2, hbytes, hk⟩ := h
              cases hzz : zT P e.1 with
              | none => simp [hzz] at hz
              | some z =>
                simp [hzz] at hz
                have hy := r.ev y
                rw [hev] at hy
                obtain ⟨e1, sz, by_⟩ := e
                cases dst with
                | none =>
                  obtain ⟨v', w', G', hrun, r'⟩ := append_step (ty := type) (d := s.n) r hsl hzz hz hp1 hp2 htx hok hy h1 h2 hbytes
                  refine Oper.wp_value (v := v') (w' := w') ?_ ⟨_, G', hk, ?_, rfl⟩
                  · simp only [execOp, resolve, Sem.run_bind, Sem.run_pure, Result.andThen_ok, invoke, builtin]
                    simp at hrun ⊢
                    simp [hrun]
                  · have e2 : (s.kill tx).set s.n (.sl (appTag tag e1 sz rows2) (rows ++ rows2)) = s.kill tx := by
                      have : (s.kill tx).n = s.n := by simp only [ASt.kill, ASt.set]; split <;> rfl
                      unfold ASt.set; rw [this]; simp
                    have e3 : a.put (some s.n) v' = a := by
                      have : ¬ s.n < a.tmps.size := by rw [r.size]; omega
                      simp only [Act.put]
                      rw [Array.setIfInBounds_eq_of_size_le (by omega)]
                    rw [e2, e3] at r'
                    exact r'
                | some d =>
                  obtain ⟨v', w', G', hrun, r'⟩ := append_step (ty := type) (d := d) r hsl hzz hz hp1 hp2 htx hok hy h1 h2 hbytes
                  refine Oper.wp_value (v := v') (w' := w') ?_ ⟨_, G', hk, r', put_size _ _ _⟩
                  simp only [execOp, resolve, Sem.run_bind, Sem.run_pure, Result.andThen_ok, invoke, builtin]
                  simp at hrun ⊢
                  simp [hrun]
            · rename_i b off n cc tag2 rows2 e htx hev hsl
              obtain ⟨⟨rfl, rfl, hp1, hp2, hz⟩, h2, hbytes, hk⟩ := h
              cases hzz : zT P e.1 with
              | none => simp [hzz] at hz
              | some z =>
                simp [hzz] at hz
                have hy := r.ev y
                rw [hev] at hy
                have hx := r.ev (.tmp tx)
                rw [show s.ev (.tmp tx) = s.t tx from rfl, htx] at hx
                obtain ⟨e1, sz, by_⟩ := e
                split at hk
                · rename_i cells hb
                  obtain ⟨hcl, hk⟩ := hk
                  obtain ⟨v', w', G', b', c', spare, hrun, hrep, hbb, hnc, hsl', r'⟩ := sm_append_step (ty := type) r hsl hzz hz hp1 hp2 hx hb hcl hy h2 hbytes
                  refine Oper.wp_value (v := v') (w' := w') ?_ ⟨_, G', hk b' c' spare hbb hnc hsl', r'.put dst _ _ hrep (fun _ _ => trivial), put_size _ _ _⟩
                  simp only [execOp, resolve, Sem.run_bind, Sem.run_pure, Result.andThen_ok, invoke, builtin]
                  simp at hrun ⊢
                  simp [hrun]
                · exact hk.elim
            · rename_i tag2 rows2 e htx hev hsl
              obtain ⟨⟨rfl, hp1, hp2, hz⟩, h2, hbytes, hk⟩ := h
              cases hzz : zT P e.1 with
              | none => simp [hzz] at hz
              | some z =>
                simp [hzz] at hz
                have hy := r.ev y
                rw [hev] at hy
                have hx := r.ev (.tmp tx)
                rw [show s.ev (.tmp tx) = s.t tx from rfl, htx] at hx
                obtain ⟨e1, sz, by_⟩ := e
                rcases mn_append_step (ty := type) r hsl hzz hz hp1 hp2 hx hy h2 hbytes with ⟨he, vr, hrun, hvr⟩ | ⟨hne, v', w', G', b', c', spare, hrun, hrep, hbb, hnc, hsl', r'⟩
                · refine Oper.wp_value (v := vr) (w' := w) ?_ ⟨_, G, hk.1 he, r.put dst _ _ hvr (fun _ _ => trivial), put_size _ _ _⟩
                  simp only [execOp, resolve, Sem.run_bind, Sem.run_pure, Result.andThen_ok, invoke, builtin]
                  simp at hrun ⊢
                  simp [hrun]
                · refine Oper.wp_value (v := v') (w' := w') ?_ ⟨_, G', hk.2 hne b' c' spare hbb hnc hsl', r'.put dst _ _ hrep (fun _ _ => trivial), put_size _ _ _⟩
                  simp only [execOp, resolve, Sem.run_bind, Sem.run_pure, Result.andThen_ok, invoke, builtin]
                  simp at hrun ⊢
                  simp [hrun]
            · exact h.elim
          · exact h _ _ _ _ _ _ _ _ r
        · exact h.elim
      by_cases hbk : b = .clear
      · subst hbk; exact h _ _ _ _ _ _ _ _ r
      by_cases hbp : b = .cap
      · subst hbp; exact h _ _ _ _ _ _ _ _ r
      by_cases hbc : b = .copy
      · subst hbc
        simp only at h
        split at h
        · rename_i x y t t' hargs hts
          have ha' : args = #[x, y] := by rw [← Array.toArray_toList (xs := args), hargs]
          have ht' : argTypes = #[t, t'] := by rw [← Array.toArray_toList (xs := argTypes), hts]
          subst ha'; subst ht'
          have hx := r.ev x
          have hy := r.ev y
          split at h
          · rename_i b off n cc tag2 rows2 e hevx hevy hsl
            obtain ⟨h2, hk⟩ := h
            obtain ⟨e1, sz, by_⟩ := e
            rw [hevx] at hx
            rw [hevy] at hy
            split at hk
            · rename_i cells hb
              obtain ⟨hcl, hk⟩ := hk
              obtain ⟨w', hrun, r'⟩ := sm_copy_step (ty := type) (sT := t') r hsl hx hb hcl hy h2
              refine Oper.wp_value (v := .int .i64 ((min rows2.length n : Nat) : Int)) (w' := w') ?_ ⟨_, G, hk, r'.put dst _ _ (.v _) (fun _ _ => trivial), put_size _ _ _⟩
              simp only [execOp, resolve, Sem.run_bind, Sem.run_pure, Result.andThen_ok, invoke, builtin]
              simp at hrun ⊢
              simp [hrun]
            · exact hk.elim
          · rename_i b off n cc b2 off2 n2 cc2 e hevx hevy hsl
            obtain ⟨e1, sz, by_⟩ := e
            rw [hevx] at hx
            rw [hevy] at hy
            split at h
            · rename_i cells cells2 hb hb2
              obtain ⟨hcl, hcl2, hone, hk⟩ := h
              obtain ⟨w', hrun, r'⟩ := sm_copy_sm (ty := type) (sT := t') r hsl hx hb hcl hy hb2 hcl2 hone
              refine Oper.wp_value (v := .int .i64 ((min n2 n : Nat) : Int)) (w' := w') ?_ ⟨_, G, hk, r'.put dst _ _ (.v _) (fun _ _ => trivial), put_size _ _ _⟩
              simp only [execOp, resolve, Sem.run_bind, Sem.run_pure, Result.andThen_ok, invoke, builtin]
              simp at hrun ⊢
              simp [hrun]
            · exact h.elim
          · rename_i b off n cc e hevx hevy hsl
            obtain ⟨e1, sz, by_⟩ := e
            rw [hevx] at hx
            rw [hevy] at hy
            split at h
            · rename_i cells hb
              obtain ⟨hcl, hk⟩ := h
              obtain ⟨w', hrun, r'⟩ := sm_copy_step (ty := type) (sT := t') (tag2 := .no) (rows2 := []) r hsl hx hb hcl (mn_no hy) (by simp)
              refine Oper.wp_value (v := .int .i64 ((0 : Nat) : Int)) (w' := w') ?_ ⟨_, G, hk, by simpa using r'.put dst _ _ (.v _) (fun _ _ => trivial), put_size _ _ _⟩
              simp only [execOp, resolve, Sem.run_bind, Sem.run_pure, Result.andThen_ok, invoke, builtin]
              simp at hrun ⊢
              simp [hrun]
            · exact h.elim
          · exact h.elim
        · exact h.elim
      · have h' : aBuiltinK P s.ev b args.toList argTypes.toList fun r => K (s.put dst r) := by
          cases b <;> first | exact absurd rfl hb | exact absurd rfl hbc | exact absurd rfl hbk | exact absurd rfl hbp | exact h
        unfold aBuiltinK at h'
        split at h'
        · rename_i q hq
          have ha : aval P s.ev s.h (.call ⟨.builtin b, args, argTypes⟩) = some q := hq
          split at h'
          · rename_i x hx
            refine value ha ?_
            have hrep := r.ev x
            unfold lenFact at h'
            split at h'
            · rename_i tag rows hev
              rw [hev] at hrep
              refine h' ?_
              generalize a.eval x = y at hrep
              cases hrep with
              | nil => simp
              | empty => simp
              | sl s c ht hcap hlen => exact hlen
            · rename_i b' o n cp hev
              rw [hev] at hrep
              refine h' ?_
              generalize a.eval x = y at hrep
              cases hrep; assumption
            · exact h'
          · exact value ha h'
        · exact h'.elim
  | makeSlice t l c =>
    simp only [aop] at h
    split at h
    · rename_i kl n kc m e hevl hevc hsl
      split at h
      · rename_i z hz
        obtain ⟨⟨rfl, h0, hzl, hby, hn⟩, hk⟩ := h
        obtain ⟨e1, sz, by_⟩ := e
        have hl := r.ev l
        have hc := r.ev c
        rw [hevl] at hl
        rw [hevc] at hc
        generalize hql : a.eval l = vl at hl
        generalize hqc : a.eval c = vc at hc
        cases hl; cases hc
        obtain ⟨w', G', hrun, hno, r'⟩ := make_step (kl := kl) (kc := kc) r hsl hz hzl hby hn
        rw [Int.toNat_of_nonneg h0] at hrun
        have hlen : m.toNat ≤ Go.maxLen := by simp only [Go.maxLen, maxLen] at *; omega
        refine Oper.wp_value (o := ⟨dst, .makeSlice t l c, type, pos, after, guard⟩) (exec_value (x := Instr.makeSlice t (a.eval l) (a.eval c)) rfl (by rw [hql, hqc]; exact hrun)) ⟨_, G', hk _ hno, r'.put dst _ _ (.sm _ _ _ _ (Nat.le_refl _) hn hlen) (fun _ _ => trivial), put_size _ _ _⟩
      · exact h.elim
    · exact h.elim
  | build t ps =>
    simp only [aop] at h
    split at h
    · rename_i q hq
      split at hq
      · obtain ⟨v, w', I', hrun, hext, hrep, hst⟩ := buildN_sound (P := P) (dst := dst) (type := type) (pos := pos) (after := after) (guard := guard) (ρ := a.eval) r.hrel r.ev hq
        exact Oper.wp_value hrun ⟨_, _, h, still_put (o := (⟨dst, .build t ps, type, pos, after, guard⟩ : Oper)) r hext hrep hst, put_size _ _ _⟩
      · exact value hq h
    · exact h.elim
  | buildSlice t n ps =>
    simp only [aop] at h
    split at h
    · rename_i q hq
      split at h
      · unfold bsP at h
        split at h
        · rename_i e he
          split at h
          · rcases h with h | ⟨rows, rfl, hth⟩
            · exact value hq h
            · have hq' : abuildSlice P t n (ps.toList.map fun p => (p.1, s.ev p.2)) = some (.sl .full rows) := hq
              obtain ⟨v, w', I', hv, hext, hrep, hst, hfr⟩ := abuildSlice_sound (P := P) (w := w) (qs := ps.map fun (i, x) => (i, a.eval x)) r.hrel.imm (by simp) (fun j p q hp hq => by
                simp only [List.getElem?_map, Array.getElem?_toList, Array.getElem?_map] at hp hq
                cases hz : ps[j]? with
                | none => simp [hz] at hp
                | some z =>
                  simp [hz] at hp hq
                  subst hp; subst hq
                  exact ⟨rfl, r.ev z.2⟩) hq'
              obtain ⟨e1, sz1, pu1, rows1, heq, hne, hpf, hk⟩ := hth
              injection heq with ht hr0
              injection ht with ht1 ht2 ht3
              subst ht1; subst ht2; subst ht3; subst hr0
              obtain ⟨g, cap, cur, T, f1, f2, f3, f4, f5, f6, f7, f8, f9⟩ := hfr rows e rfl he hne
              obtain ⟨s', G', hs', hr'⟩ := thaw_put r hext (hrep.retag (tag' := .live e.1 e.2.1 true) (by simp)) (.inr ⟨g, cap, cur, T, f1, f2, f3, fun _ => f4, f5, f6, f7, f8, f9⟩) hne (.inl rfl) dst hk
              exact Oper.wp_value (o := ⟨dst, .buildSlice t n ps, type, pos, after, guard⟩) (exec_value rfl hv) ⟨s', G', hs', hr', put_size _ _ _⟩
          · exact value hq h
        · exact value hq h
      · exact value hq h
    · exact h.elim
  | makeMap => exact h _ _ _ _ _ _ _ _ r
  | lookup => exact h _ _ _ _ _ _ _ _ r
  | mapUpdate => exact h _ _ _ _ _ _ _ _ r
  | mapEntry => exact h _ _ _ _ _ _ _ _ r
  | entryStore => exact h _ _ _ _ _ _ _ _ r
  | range => exact h _ _ _ _ _ _ _ _ r
  | next => exact h _ _ _ _ _ _ _ _ r
  | entry => exact h _ _ _ _ _ _ _ _ r
  | _ =>
    simp only [aop] at h
    split at h
    · rename_i q hq; exact value hq h
    · exact h.elim

end
end Go.Rw
