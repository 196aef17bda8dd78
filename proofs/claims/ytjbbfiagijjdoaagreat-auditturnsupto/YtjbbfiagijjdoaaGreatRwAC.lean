/- Parts of the proof: what is used by the law. No condition. -/
import Derived.Test.YtjbbfiagijjdoaaGreatRwT
import Derived.Test.YtjbbfiagijjdoaaGreatRwY
import Derived.Maps.RangeRun
import Derived.WideKeyRuns
import Derived.WideKeyEntry
set_option linter.unusedSimpArgs false
set_option linter.unusedVariables false
/- Maps: a map's entries, told exactly, in the slot that owns it. No condition. -/
set_option linter.unusedSimpArgs false
set_option linter.unusedVariables false
set_option maxRecDepth 10000
namespace Go.Rw
open Go.ChangeMaps (setBlock)

section
variable {P : Program} {B : Nat} {F : Nat → Prop} {w0 : World} {I0 : Imm} {s : ASt} {G : Ghost} {a : Act} {w : World}

/-- no memory of cells -/
def NoCells (o : Obj) : Prop := ∀ c e f, o ≠ .cells c e f
theorem noCells_cell {w : World} {b i : Nat} {o : Obj} (h : NoCells o) (hb : w.heap[b]? = some o) : w.cell? ⟨b, i, none⟩ = none := by
  simp only [World.cell?, hb]
  cases o <;> first | rfl | exact absurd rfl (h _ _ _)
theorem noCells_frozen {w : World} {x : Addr} {o : Obj} (h : NoCells o) (hb : w.heap[x.block]? = some o) : w.frozen? x = false := by
  simp only [World.frozen?, hb]
  cases o <;> first | rfl | exact absurd rfl (h _ _ _)
theorem frozen_congr {w w' : World} {x : Addr} (h : w'.heap[x.block]? = w.heap[x.block]?) : w'.frozen? x = w.frozen? x := by simp only [World.frozen?, h]
theorem frozen_none {w : World} {x : Addr} (h : w.heap[x.block]? = none) : w.frozen? x = false := by simp only [World.frozen?, h]
theorem Calm.allocAny (w : World) (o : Obj) (h : NoCells o) : Calm w (w.alloc o) := ⟨rfl, rfl, fun x => by
  obtain ⟨h1, h2, h3⟩ := heap_push (w := w) rfl o
  by_cases hb : x.block < w.heap.size
  · exact frozen_congr (h1 _ hb)
  · have e1 : w.heap[x.block]? = none := Array.getElem?_eq_none (by omega)
    rw [frozen_none e1]
    by_cases he : x.block = w.heap.size
    · exact noCells_frozen h (by rw [he]; exact h2)
    · exact frozen_none (Array.getElem?_eq_none (by omega)), rfl⟩

/-- A new object that is no memory of cells: it stands in a slot. -/
theorem Rel.newOb (r : Rel B F w0 I0 s G a w) (o : Obj) (m : Bool) (h : NoCells o) (d : Option Tmp) :
    ∃ G', Rel B F w0 I0 (s.put d (.ob m w.heap.size o)) G' (a.put d (obW m w.heap.size)) (w.alloc o) := by
  obtain ⟨hh, hn, hs⟩ := heap_push (w := w) rfl o
  have hin : ∀ b i v, G.imm b i = some v → (w.alloc o).cell? ⟨b, i, none⟩ = some v := fun b i v hb => by
    have := r.hrel.imm b i v hb
    rw [cell_congr (hh b (cell_lt this))]; exact this
  have he : Ext w G.imm (w.alloc o) G.imm := ⟨hh, by omega, fun _ _ => rfl, hin, Calm.allocAny w o h⟩
  obtain ⟨G', hr⟩ := call_put r he (x := .ob m w.heap.size o) (v := obW m w.heap.size) (.ob _ _ _) ⟨Nat.le_refl _, hn⟩ d
  exact ⟨G', hr⟩

/-- An object that stands in a slot becomes another one. -/
theorem Rel.reOb (r : Rel B F w0 I0 s G a w) {j : Nat} {m : Bool} {g : Nat} {o o' : Obj} (hj : s.t j = .ob m g o) {w' : World} (hh : ∀ b, b ≠ g → w'.heap[b]? = w.heap[b]?) (hg : w'.heap[g]? = some o') (hs : w'.heap.size = w.heap.size)
    (hne : NoCells o) (hc : Calm w w') : ∃ G', Rel B F w0 I0 (s.set j (.ob m g o')) G' a w' := by
  obtain ⟨hown, hheap⟩ : G.own g = some (.slot j) ∧ w.heap[g]? = some o := by
    have := (r.tmps j).2
    rw [hj] at this
    exact this
  have hin : ∀ b i v, G.imm b i = some v → w'.cell? ⟨b, i, none⟩ = some v := fun b i v hb => by
    have h1 := r.hrel.imm b i v hb
    by_cases hbg : b = g
    · subst hbg
      exfalso
      rw [noCells_cell hne hheap] at h1; simp at h1
    · rw [cell_congr (hh b hbg)]; exact h1
  have hr := r.turn (.slot j) (.slot j) g w' G.imm (by simp) (by simp) (Sub.refl _) (fun b hb _ => hh b hb) (by omega) (fun _ _ _ => rfl) (.inl hown) (by rw [hs]; exact r.hrel.own g _ hown) hin hc
  have hv : a.tmps.getD j undef = obW m g := by
    have := (r.tmps j).1
    rw [hj] at this
    generalize a.tmps.getD j undef = y at this
    cases this; rfl
  have h2 := hr.set j (.ob m g o') (obW m g) (.ob _ _ _) ⟨by simp [upd], hg⟩
  have e1 : (s.killAt (.slot j)).set j (.ob m g o') = s.set j (.ob m g o') := by
    simp only [ASt.killAt, ASt.kill, ASt.set]
    by_cases hjn : j < s.n
    · simp only [hjn, if_true]
      congr 1
      funext k
      simp only [upd]
      split <;> rfl
    · simp [hjn]
  have e2 : a.put (some j) (obW m g) = a := by
    simp only [Act.put]
    have : a.tmps.setIfInBounds j (obW m g) = a.tmps := by
      apply Array.ext_getElem?
      intro i
      rw [Array.getElem?_setIfInBounds]
      by_cases hi : j = i
      · subst hi
        by_cases hlt : j < a.tmps.size
        · have : a.tmps[j] = obW m g := by
            rw [Array.getD_eq_getD_getElem?, Array.getElem?_eq_getElem hlt] at hv; exact hv
          simp [hlt, this]
        · simp [hlt, Array.getElem?_eq_none (Nat.le_of_not_lt hlt)]
      · simp [hi]
    rw [this]
  rw [e1, e2] at h2
  exact ⟨_, h2⟩
end

/-- an object becomes rows that never change again: nobody may write it any more -/
theorem Shift.freeze0 {n : Nat} {t : Nat → AV} {h : Nat → Option (List AV)} {K : ASt → Prop} {b sz : Nat} {cells : List AV} (rows : List (List AV)) (hb : h b = some cells) (hc : chunks cells rows sz)
    (hk : K ⟨n, frozenT b rows t, frozenH b rows h⟩) : Shift ⟨n, t, h⟩ K := by
  intro B F w0 I0 G a w r
  obtain ⟨ho, arr, T, hh, hsz, hcells⟩ := r.hrel.obj b cells hb
  have hex := r.hrel.excl b ho
  have hc3 := hc.2.2.1
  have hsub : Sub G.imm (fun k i => if k = b then (if i < rows.length * sz then arr[i]? else none) else G.imm k i) := fun k i v hq => by
    by_cases hkb : k = b
    · rw [hkb, hex i] at hq; simp at hq
    · simp only [hkb, if_false]; exact hq
  have hin := chunks_in (b := b) hc hsz (fun j x y hx hy => (hcells j x y hx hy).1) hsub (fun i hi => by simp [hi])
  have hI : ∀ k i v, (fun k i => if k = b then (if i < rows.length * sz then arr[i]? else none) else G.imm k i : Imm) k i = some v → w.cell? ⟨k, i, none⟩ = some v := fun k i v hq => by
    simp only at hq
    split at hq
    · rename_i hkb
      rw [hkb]
      split at hq
      · simp [World.cell?, hh, hq]
      · simp at hq
    · exact r.hrel.imm k i v hq
  -- the rights to write stay as they are
  have live : ∀ (p : Own) (x : AV) (y : Value), p ≠ .obj → LiveOK G w p x y → LiveOK { imm := fun k i => if k = b then (if i < rows.length * sz then arr[i]? else none) else G.imm k i, own := upd G.own b none } w p x y := by
    intro p x y hp hl
    cases x with
    | sl tag rows' =>
      cases tag with
      | live e' sz' pu' =>
        rcases hl with hl | ⟨k, cap', cur', T', hy', ho', hi', hpu', hh', hc'⟩
        · exact .inl hl
        · have hkb : k ≠ b := by
            rintro rfl
            rw [ho] at ho'
            exact hp (Option.some.inj ho').symm
          exact .inr ⟨k, cap', cur', T', hy', by simp only [upd, hkb, if_false]; exact ho', fun i h1 => by simp only [hkb, if_false]; exact hi' i h1, fun q => (hpu' q).mono hsub, hh', hc'⟩
      | full => exact hl
      | _ => trivial
    | ob m k ob =>
      obtain ⟨ho', hh'⟩ := hl
      have hkb : k ≠ b := by
        rintro rfl
        rw [ho] at ho'
        exact hp (Option.some.inj ho').symm
      exact ⟨by simp only [upd, hkb, if_false]; exact ho', hh'⟩
    | _ => trivial
  refine ⟨_, { imm := fun k i => if k = b then (if i < rows.length * sz then arr[i]? else none) else G.imm k i, own := upd G.own b none }, hk, ?_⟩
  refine ⟨⟨hI, fun k c hkc => ?_, fun k hko i => ?_, fun k o hko => ?_⟩, r.size, fun i => ?_, r.defers, r.below, r.base, fun k o hko => ?_, fun k hkB hF => ?_, r.sub0.trans hsub, r.calm⟩
  · simp only [frozenH] at hkc
    split at hkc
    · simp at hkc
    · rename_i hkb
      cases hz : h k with
      | none => simp [hz] at hkc
      | some c0 =>
        simp [hz] at hkc
        subst hkc
        obtain ⟨ho', arr', T', q1, q2, q3⟩ := r.hrel.obj k c0 hz
        refine ⟨by simp only [upd, hkb, if_false]; exact ho', arr', T', q1, by simp [q2], fun j x y hx hy => ?_⟩
        simp only [List.getElem?_map] at hx
        cases hx0 : c0[j]? with
        | none => simp [hx0] at hx
        | some x0 =>
          simp [hx0] at hx
          subst hx
          obtain ⟨q4, q5⟩ := q3 j x0 y hx0 hy
          exact ⟨q4.frz0 hsub hin, frz0_live (live _ _ _ (by simp) q5)⟩
  · simp only [upd] at hko
    split at hko
    · simp at hko
    · rename_i hkb
      show (if k = b then _ else G.imm k i) = none
      rw [if_neg hkb]; exact r.hrel.excl k hko i
  · simp only [upd] at hko
    split at hko
    · simp at hko
    · exact r.hrel.own k o hko
  · exact ⟨(r.tmps i).1.frz2 hsub hin, frz2_live (live _ _ _ (by simp) (r.tmps i).2)⟩
  · simp only [upd] at hko
    split at hko
    · simp at hko
    · exact r.ownB k o hko
  · have hkb : k ≠ b := by
      rintro rfl
      rcases r.ownB k _ ho with h | h
      · omega
      · exact hF h
    show (fun i => if k = b then _ else G.imm k i) = I0 k
    funext i
    rw [if_neg hkb, r.immB k hkB hF]
theorem shiftK.freeze0 {n : Nat} {t : Nat → AV} {h : Nat → Option (List AV)} {K : ASt → Prop} {b sz : Nat} {cells : List AV} (rows : List (List AV)) (hb : h b = some cells) (hc : chunks cells rows sz)
    (hk : @exitK ⟨n, frozenT b rows t, frozenH b rows h⟩ ⟨K⟩) : @shiftK ⟨n, t, h⟩ ⟨K⟩ := Shift.freeze0 rows hb hc hk
/-! ### maps whose keys are compared field by field -/
/-- keys of a type, told as plain data -/
structure KeyT (P : Program) (kt : TypeId) {α : Type} [DecidableEq α] (ek : α → Value) : Prop where
  wide : (match P.underlying kt with | some (.array _ _) | some (.struct _) => true | _ => false) = true
  ck : ∀ em x w, (Instr.checkKey em 10000 kt (ek x)).run P w = .ok () w
  eq : ∀ x y w, (Op.equal kt (ek x) (ek y)).run P w = .ok (decide (x = y)) w
  bits : ∀ x, Instr.sameBits 10000 (ek x) (ek x) = true
set_option linter.unusedSectionVars false
section
variable {α : Type} [DecidableEq α] {β : Type}
def mEnt (ek : α → Value) (ev : β → Value) (e : α × β × Nat) : MapEntry := ⟨ek e.1, ev e.2.1, e.2.2⟩
/-- a map's object -/
def mObj (ek : α → Value) (ev : β → Value) (m : List (α × β × Nat)) (clock : Nat) : Obj := .map (m.map (mEnt ek ev)).toArray clock
theorem mObj_no (ek : α → Value) (ev : β → Value) (m : List (α × β × Nat)) (clock : Nat) : NoCells (mObj ek ev m clock) := fun _ _ _ h => by cases h
theorem iter_no (b : Option Nat) (x : Nat) (y : Array Nat) (z : Nat) : NoCells (.mapIter b x y z) := fun _ _ _ h => by cases h
/-- where a key stands, from a place on -/
def findM (k : α) : List (α × β × Nat) → Nat → Option (Nat × β)
  | [], _ => none
  | e :: m, i => if k = e.1 then some (i, e.2.1) else findM k m (i + 1)
theorem run_findM {P : Program} {kt : TypeId} {ek : α → Value} {ev : β → Value} (hk : KeyT P kt ek) (w : World) (k : α) (m : List (α × β × Nat)) : (Instr.findKey kt (ek k) (m.map (mEnt ek ev)).toArray.toList).run P w = .ok ((findM k m 0).map fun p => (p.1, ev p.2)) w := by
  rw [run_findKey_eq w hk.wide]
  have key : ∀ (m : List (α × β × Nat)) (i : Nat), (Instr.findAsking kt (ek k) (m.map (mEnt ek ev)) i).run P w = .ok ((findM k m i).map fun p => (p.1, ev p.2)) w := by
    intro m
    induction m with
    | nil => intro i; simp [Instr.findAsking, findM]
    | cons e m ih =>
      intro i
      simp only [List.map_cons, Instr.findAsking, Sem.run_bind, mEnt, hk.eq, Result.andThen_ok, findM]
      by_cases h : k = e.1
      · simp [h]
      · simp [h, ih (i + 1)]
  exact key m 0
theorem findM_some {k : α} : ∀ {m : List (α × β × Nat)} {i j : Nat} {v : β}, findM k m i = some (j, v) → ∃ e, i ≤ j ∧ m[j - i]? = some e ∧ e.1 = k ∧ e.2.1 = v
  | [], _, _, _, h => by simp [findM] at h
  | e :: m, i, j, v, h => by
    unfold findM at h
    split at h
    · rename_i hk
      obtain ⟨rfl, rfl⟩ := Prod.mk.inj (Option.some.inj h)
      exact ⟨e, Nat.le_refl _, by simp, hk.symm, rfl⟩
    · obtain ⟨e', h1, h2, h3⟩ := findM_some h
      refine ⟨e', by omega, ?_, h3⟩
      rw [show j - i = (j - (i + 1)) + 1 by omega]
      simpa using h2
theorem findM_none {k : α} : ∀ {m : List (α × β × Nat)} {i : Nat}, findM k m i = none → ∀ e ∈ m, ¬ e.1 = k
  | [], _, _ => by simp
  | e :: m, i, h => by
    unfold findM at h
    split at h
    · cases h
    · rename_i hk
      intro x hx
      rcases List.mem_cons.1 hx with rfl | hx
      · exact fun h => hk h.symm
      · exact findM_none h x hx
/-- a value put at a key -/
def putM (k : α) (v : β) (m : List (α × β × Nat)) (clock : Nat) : List (α × β × Nat) × Nat := match findM k m 0 with
  | some (i, _) => (m.modify i fun e => (k, v, e.2.2), clock)
  | none => (m ++ [(k, v, clock)], clock + 1)
theorem setBlock_facts {w : World} {g : Nat} {o : Obj} (hg : w.heap[g]? = some o) (o' : Obj) : (∀ b, b ≠ g → (setBlock w g o').heap[b]? = w.heap[b]?) ∧ (setBlock w g o').heap[g]? = some o' ∧ (setBlock w g o').heap.size = w.heap.size := by
  have hlt : g < w.heap.size := by
    rcases Nat.lt_or_ge g w.heap.size with h1 | h1
    · exact h1
    · simp [Array.getElem?_eq_none h1] at hg
  refine ⟨fun b hb => ?_, ?_, by simp [setBlock]⟩
  · have hb' : ¬ g = b := fun e => hb e.symm
    simp only [setBlock, Array.getElem?_setIfInBounds, hb', if_false]
  · simp only [setBlock, Array.getElem?_setIfInBounds, if_true, hlt]
theorem setBlock_calm {w : World} {g : Nat} {o o' : Obj} (hg : w.heap[g]? = some o) (h : NoCells o) (h' : NoCells o') : Calm w (setBlock w g o') := by
  obtain ⟨h1, h2, h3⟩ := setBlock_facts hg o'
  refine ⟨rfl, rfl, fun x => ?_, rfl⟩
  by_cases hx : x.block = g
  · exact (noCells_frozen h' (by rw [hx]; exact h2)).trans (noCells_frozen h (by rw [hx]; exact hg)).symm
  · exact frozen_congr (h1 _ hx)
theorem run_setObj {P : Program} {w : World} {g : Nat} {o : Obj} (hg : w.heap[g]? = some o) (hn : NoCells o) (o' : Obj) : (setObj g o').run P w = .ok () (setBlock w g o') := by
  simp only [setObj, Sem.run, hg, setBlock]
  cases o <;> first | rfl | exact absurd rfl (hn _ _ _)
theorem run_getObj {P : Program} {w : World} {g : Nat} {o : Obj} (hg : w.heap[g]? = some o) (hn : NoCells o) : (getObj g).run P w = .ok o w := by
  simp only [getObj, Sem.run, hg]
  cases o <;> first | rfl | exact absurd rfl (hn _ _ _)
theorem modify_me (ek : α → Value) (ev : β → Value) (m : List (α × β × Nat)) (i : Nat) (f : α × β × Nat → α × β × Nat) (g : MapEntry → MapEntry) (h : ∀ e, m[i]? = some e → g (mEnt ek ev e) = mEnt ek ev (f e)) : (m.map (mEnt ek ev)).modify i g = (m.modify i f).map (mEnt ek ev) := by
  apply List.ext_getElem?
  intro j
  rw [List.getElem?_modify, List.getElem?_map, List.getElem?_map, List.getElem?_modify]
  by_cases hj : i = j
  · subst hj
    cases he : m[i]? with
    | none => simp
    | some e => simp [h e he]
  · cases he : m[j]? with
    | none => simp
    | some e => simp [hj]
theorem mapUpdate_run {P : Program} {t kt e : TypeId} {ek : α → Value} {ev : β → Value} (hk : KeyT P kt ek) (ht : P.underlying t = some (.map kt e)) {w : World} {g : Nat} {m : List (α × β × Nat)} {clock : Nat} (hg : w.heap[g]? = some (mObj ek ev m clock)) (k : α) (v : β) :
    (Instr.mapUpdate t (.map (some g)) (ek k) (ev v)).run P w = .ok () (setBlock w g (mObj ek ev (putM k v m clock).1 (putM k v m clock).2)) := by
  have hf := run_findM (ev := ev) hk w k m
  have hg' : w.heap[g]? = some (.map (m.map (mEnt ek ev)).toArray clock) := hg
  have hno : NoCells (.map (m.map (mEnt ek ev)).toArray clock) := mObj_no ek ev m clock
  unfold putM
  cases hq : findM k m 0 with
  | none =>
    rw [hq] at hf
    simp only [Option.map_some, Option.map_none] at hf
    have e1 : (m.map (mEnt ek ev)).toArray.push ⟨ek k, ev v, clock⟩ = ((m ++ [(k, v, clock)]).map (mEnt ek ev)).toArray := by simp [mEnt]
    simp only [Instr.mapUpdate, Sem.run_bind, run_underlying ht, Result.andThen_ok, run_getObj hg' hno,  hk.ck, hf, run_setObj hg' hno, e1]
    rfl
  | some p =>
    obtain ⟨i, v0⟩ := p
    rw [hq] at hf
    simp only [Option.map_some, Option.map_none] at hf
    obtain ⟨e0, _, h2, h3, h4⟩ := findM_some hq
    rw [Nat.sub_zero] at h2
    have hold : (((m.map (mEnt ek ev)).toArray[i]?).map (·.key)).getD (ek k) = ek k := by
      simp only [List.getElem?_toArray, List.getElem?_map, h2, Option.map_some, mEnt, Option.getD_some, h3]
    have e1 : (m.map (mEnt ek ev)).toArray.modify i (fun e => { e with key := ek k, val := ev v }) = ((m.modify i fun e => (k, v, e.2.2)).map (mEnt ek ev)).toArray := by
      apply Array.toList_inj.1
      rw [Array.toList_modify]
      exact modify_me ek ev m i _ _ fun e he => rfl
    simp only [Instr.mapUpdate, Sem.run_bind, run_underlying ht, Result.andThen_ok, run_getObj hg' hno,  hk.ck, hf, Instr.keyThatStays, hold, hk.bits, if_true, Sem.run_pure, run_setObj hg' hno, e1]
    rfl

/-- what a lookup answers -/
def lookV (ev : β → Value) (z : Value) (o : Option (Nat × β)) : Value := match o with
  | some p => .tuple #[ev p.2, .bool true]
  | none => .tuple #[z, .bool false]
theorem lookup_run {P : Program} {t kt e : TypeId} {ek : α → Value} {ev : β → Value} (hk : KeyT P kt ek) (ht : P.underlying t = some (.map kt e)) {w : World} {g : Nat} {m : List (α × β × Nat)} {clock : Nat} (hg : w.heap[g]? = some (mObj ek ev m clock)) (k : α) {z : Value} (hz : (zeroValue e).run P w = .ok z w) :
    (Instr.lookup t (.map (some g)) (ek k) true).run P w = .ok (lookV ev z (findM k m 0)) w := by
  have hf := run_findM (ev := ev) hk w k m
  have hg' : w.heap[g]? = some (.map (m.map (mEnt ek ev)).toArray clock) := hg
  have hno : NoCells (.map (m.map (mEnt ek ev)).toArray clock) := mObj_no ek ev m clock
  cases hq : findM k m 0 with
  | none =>
    rw [hq] at hf
    simp only [Option.map_some, Option.map_none] at hf
    simp only [Instr.lookup, Sem.run_bind, run_underlying ht, Result.andThen_ok, run_getObj hg' hno, Sem.run_pure, hk.ck, hf, hz, if_true]
    rfl
  | some p =>
    obtain ⟨i, v0⟩ := p
    rw [hq] at hf
    simp only [Option.map_some, Option.map_none] at hf
    simp only [Instr.lookup, Sem.run_bind, run_underlying ht, Result.andThen_ok, run_getObj hg' hno, Sem.run_pure, hk.ck, hf, if_true]
    rfl
/-- the stamps are apart, and before the clock -/
def StampM (m : List (α × β × Nat)) (clock : Nat) : Prop := (m.map (·.2.2)).Nodup ∧ ∀ e ∈ m, e.2.2 < clock
/-- an entry for a key: the one that is there, or a new one -/
def entM (k : α) (z : β) (m : List (α × β × Nat)) (clock : Nat) : β × Nat := match findM k m 0 with
  | some (i, v) => (v, (m[i]?.map (·.2.2)).getD 0)
  | none => (z, clock)
def addM (k : α) (z : β) (m : List (α × β × Nat)) (clock : Nat) : List (α × β × Nat) × Nat := match findM k m 0 with
  | some _ => (m, clock)
  | none => (m ++ [(k, z, clock)], clock + 1)
theorem mapEntry_run {P : Program} {t kt e : TypeId} {ek : α → Value} {ev : β → Value} (hk : KeyT P kt ek) (ht : P.underlying t = some (.map kt e)) {w : World} {g : Nat} {m : List (α × β × Nat)} {clock : Nat} (hg : w.heap[g]? = some (mObj ek ev m clock)) (k : α) {z : β} (hz : (zeroValue e).run P w = .ok (ev z) w) :
    (Instr.mapEntry t (.map (some g)) (ek k)).run P w = .ok (.tuple #[ev (entM k z m clock).1, goInt (entM k z m clock).2]) (setBlock w g (mObj ek ev (addM k z m clock).1 (addM k z m clock).2)) := by
  have hf := run_findM (ev := ev) hk w k m
  have hg' : w.heap[g]? = some (.map (m.map (mEnt ek ev)).toArray clock) := hg
  have hno : NoCells (.map (m.map (mEnt ek ev)).toArray clock) := mObj_no ek ev m clock
  unfold entM addM
  cases hq : findM k m 0 with
  | none =>
    rw [hq] at hf
    simp only [Option.map_some, Option.map_none] at hf
    have e1 : (m.map (mEnt ek ev)).toArray.push ⟨ek k, ev z, clock⟩ = ((m ++ [(k, z, clock)]).map (mEnt ek ev)).toArray := by simp [mEnt]
    simp only [Instr.mapEntry, Sem.run_bind, run_underlying ht, Result.andThen_ok, run_getObj hg' hno, hk.ck, hf, hz, run_setObj hg' hno, Sem.run_pure, e1]
    rfl
  | some p =>
    obtain ⟨i, v0⟩ := p
    rw [hq] at hf
    simp only [Option.map_some, Option.map_none] at hf
    obtain ⟨e0, _, h2, h3, h4⟩ := findM_some hq
    rw [Nat.sub_zero] at h2
    have hold : (((m.map (mEnt ek ev)).toArray[i]?).map (·.key)).getD (ek k) = ek k := by
      simp only [List.getElem?_toArray, List.getElem?_map, h2, Option.map_some, mEnt, Option.getD_some, h3]
    have hborn : (((m.map (mEnt ek ev)).toArray[i]?).map (fun x => (x.born : Int))).getD 0 = (((m[i]?.map (·.2.2)).getD 0 : Nat) : Int) := by
      simp only [List.getElem?_toArray, List.getElem?_map, h2, Option.map_some, mEnt, Option.getD_some]
    have e1 : (m.map (mEnt ek ev)).toArray.modify i (fun e => { e with key := ek k }) = (m.map (mEnt ek ev)).toArray := by
      apply Array.toList_inj.1
      rw [Array.toList_modify]
      have := modify_me ek ev m i id (fun e => { e with key := ek k }) (fun e he => by
        rw [h2] at he
        obtain rfl := Option.some.inj he
        simp [mEnt, h3])
      have hid : m.modify i id = m := by
        apply List.ext_getElem?
        intro j
        rw [List.getElem?_modify]
        cases m[j]? <;> simp
      rw [hid] at this
      exact this
    simp only [Instr.mapEntry, Sem.run_bind, run_underlying ht, Result.andThen_ok, run_getObj hg' hno, hk.ck, hf, Instr.keyThatStays, hold, hk.bits, if_true, Sem.run_pure, run_setObj hg' hno, e1, hborn]
    rfl
theorem entryStore_run {P : Program} {t : TypeId} {ek : α → Value} {ev : β → Value} {w : World} {g : Nat} {m : List (α × β × Nat)} {clock : Nat} (hg : w.heap[g]? = some (mObj ek ev m clock)) (hs : StampM m clock) {i : Nat} {e0 : α × β × Nat} (hi : m[i]? = some e0) (v : β) :
    (Instr.entryStore t (.map (some g)) (goInt e0.2.2) (ev v)).run P w = .ok () (setBlock w g (mObj ek ev (m.modify i fun e => (e.1, v, e.2.2)) clock)) := by
  have hg' : w.heap[g]? = some (.map (m.map (mEnt ek ev)).toArray clock) := hg
  have hno : NoCells (.map (m.map (mEnt ek ev)).toArray clock) := mObj_no ek ev m clock
  have hidx : (m.map (mEnt ek ev)).toArray.findIdx? (fun e => ((e.born : Nat) : Int) == ((e0.2.2 : Nat) : Int)) = some i := by
    rw [Go.WideElems.findIdx_arr]
    have hn : ((m.map (mEnt ek ev)).map (·.born)).Nodup := by rw [List.map_map]; exact hs.1
    exact Go.WideElems.findIdx_born hn (j := i) (e0 := mEnt ek ev e0) (by simp [hi])
  have e1 : (m.map (mEnt ek ev)).toArray.modify i (fun e => { e with val := ev v }) = ((m.modify i fun e => (e.1, v, e.2.2)).map (mEnt ek ev)).toArray := by
    apply Array.toList_inj.1
    rw [Array.toList_modify]
    exact modify_me ek ev m i _ _ fun e he => rfl
  have ha : (asInt (goInt e0.2.2)).run P w = .ok ((e0.2.2 : Nat) : Int) w := by simp [asInt, asIntOf, goInt]
  simp only [Instr.entryStore, Sem.run_bind, Result.andThen_ok, run_getObj hg' hno, ha, hidx, run_setObj hg' hno, e1, Sem.run_pure]
  rfl

/-! ### the rules -/
section
variable {P : Program} {ops : List Oper} {s : ASt} {d : Option Tmp} {ty : TypeId} {pos : String} {after : Array Edge} {gd : Option (Nat × Bool)} {K : ASt → Prop}
theorem obW_of {B : Nat} {F : Nat → Prop} {w0 : World} {I0 : Imm} {G : Ghost} {a : Act} {w : World} (r : Rel B F w0 I0 s G a w) {x : Operand} {m : Bool} {g : Nat} {o : Obj} (hx : s.ev x = .v (obW m g) ∨ s.ev x = .ob m g o) : a.eval x = obW m g := by
  have h := r.ev x
  rcases hx with hx | hx <;> rw [hx] at h <;> generalize a.eval x = y at h <;> cases h <;> rfl
theorem ob_heap {B : Nat} {F : Nat → Prop} {w0 : World} {I0 : Imm} {G : Ghost} {a : Act} {w : World} (r : Rel B F w0 I0 s G a w) {j : Nat} {m : Bool} {g : Nat} {o : Obj} (hj : s.t j = .ob m g o) : w.heap[g]? = some o := by
  have := (r.tmps j).2
  rw [hj] at this
  exact this.2
theorem makeMapR {t : TypeId} (ek : α → Value) (ev : β → Value) (hk : ∀ g, @force (.ob true g (mObj ek ev [] 0)) ⟨fun v => K (s.put d v)⟩) : aop P ops ⟨d, .makeMap t none, ty, pos, after, gd⟩ s K := by
  unfold aop
  simp only
  intro B F w0 I0 G a w Q r
  obtain ⟨G', hr⟩ := r.newOb (mObj ek ev [] 0) true (mObj_no _ _ _ _) d
  refine Oper.wp_value (o := ⟨d, .makeMap t none, ty, pos, after, gd⟩) (v := obW true w.heap.size) (w' := w.alloc (mObj ek ev [] 0)) ?_ ⟨_, G', hk w.heap.size, hr, put_size _ _ _⟩
  simp only [execOp, Sem.run_bind, Sem.run_pure, Result.andThen_ok]
  simp [Instr.makeMap, run_newObj_alloc, obW, mObj]
theorem lookupR {t kt e : TypeId} {ek : α → Value} {ev : β → Value} (hk : KeyT P kt ek) (ht : P.underlying t = some (.map kt e)) {x y : Operand} {j g : Nat} {m : List (α × β × Nat)} {clock : Nat} (k : α) (z : Value) (hx : s.ev x = .v (.map (some g))) (hj : s.t j = .ob true g (mObj ek ev m clock))
    (hy : ∀ I u, Rep I (s.ev y) u → u = ek k) (hz : ∀ w, (zeroValue e).run P w = .ok z w) (r : AV) (hr : ∀ I, Rep I r (lookV ev z (findM k m 0))) (hd : dead1 r = r) (hK : @force r ⟨fun v => K (s.put d v)⟩) :
    aop P ops ⟨d, .lookup t x y true, ty, pos, after, gd⟩ s K := by
  unfold aop
  simp only
  intro B F w0 I0 G a w Q rel
  have e1 : a.eval x = .map (some g) := obW_of rel (m := true) (o := mObj ek ev m clock) (.inl hx)
  have e2 : a.eval y = ek k := hy _ _ (rel.ev y)
  have e3 := lookup_run hk ht (ob_heap rel hj) k (hz w)
  refine Oper.wp_value (o := ⟨d, .lookup t x y true, ty, pos, after, gd⟩) (w' := w) ?_ ⟨_, G, hK, rel.put d r _ (hr _) (fun _ _ => LiveOK.of_dead hd), put_size _ _ _⟩
  simp only [execOp, e1, e2, Sem.run_bind, e3, Result.andThen_ok, Sem.run_pure]
theorem Oper.wp_skip' {o : Oper} {a : Act} {w w' : World} {K : Act → World → Prop} {Q : Exit → Act → World → Prop} (h : (execOp a.eval o).run P w = .ok .skip w') (hn : o.dst = none) (hk : K a w') : o.wp P a w K Q := by
  unfold Oper.wp; rw [h]
  show K (a.put o.dst undef) w'
  rw [hn]; exact hk
theorem mapUpdateR {t kt e : TypeId} {ek : α → Value} {ev : β → Value} (hk : KeyT P kt ek) (ht : P.underlying t = some (.map kt e)) {x y z : Operand} {j g : Nat} {m : List (α × β × Nat)} {clock : Nat} (k : α) (v : β) (hx : s.ev x = .v (.map (some g))) (hj : s.t j = .ob true g (mObj ek ev m clock))
    (hy : ∀ I u, Rep I (s.ev y) u → u = ek k) (hz : ∀ I u, Rep I (s.ev z) u → u = ev v) (hK : @force (.ob true g (mObj ek ev (putM k v m clock).1 (putM k v m clock).2)) ⟨fun q => K (s.set j q)⟩) :
    aop P ops ⟨none, .mapUpdate t x y z, ty, pos, after, gd⟩ s K := by
  unfold aop
  simp only
  intro B F w0 I0 G a w Q rel
  have e1 : a.eval x = .map (some g) := obW_of rel (m := true) (o := mObj ek ev m clock) (.inl hx)
  have e2 : a.eval y = ek k := hy _ _ (rel.ev y)
  have e3 : a.eval z = ev v := hz _ _ (rel.ev z)
  have hg := ob_heap rel hj
  have e4 := mapUpdate_run hk ht hg k v
  obtain ⟨f1, f2, f3⟩ := setBlock_facts hg (mObj ek ev (putM k v m clock).1 (putM k v m clock).2)
  obtain ⟨G', hr⟩ := rel.reOb hj f1 f2 f3 (mObj_no _ _ _ _) (setBlock_calm hg (mObj_no _ _ _ _) (mObj_no _ _ _ _))
  refine Oper.wp_skip' (o := ⟨none, .mapUpdate t x y z, ty, pos, after, gd⟩) ?_ rfl ⟨_, G', hK, hr, rfl⟩
  simp only [execOp, e1, e2, e3, Sem.run_bind, e4, Result.andThen_ok, Sem.run_pure]
theorem mapEntryR {t kt e : TypeId} {ek : α → Value} {ev : β → Value} (hk : KeyT P kt ek) (ht : P.underlying t = some (.map kt e)) {x y : Operand} {j g : Nat} {m : List (α × β × Nat)} {clock : Nat} (k : α) (z : β) (hx : s.ev x = .v (.map (some g))) (hj : s.t j = .ob true g (mObj ek ev m clock))
    (hy : ∀ I u, Rep I (s.ev y) u → u = ek k) (hz : ∀ w, (zeroValue e).run P w = .ok (ev z) w) (r : AV) (hr : ∀ I, Rep I r (ev (entM k z m clock).1)) (hdj : d ≠ some j)
    (hK : @force (.ob true g (mObj ek ev (addM k z m clock).1 (addM k z m clock).2)) ⟨fun q => @force (.tup [r, .v (.int .i64 ((entM k z m clock).2 : Nat))]) ⟨fun v => K ((s.set j q).put d v)⟩⟩) :
    aop P ops ⟨d, .mapEntry t x y, ty, pos, after, gd⟩ s K := by
  unfold aop
  simp only
  intro B F w0 I0 G a w Q rel
  have e1 : a.eval x = .map (some g) := obW_of rel (m := true) (o := mObj ek ev m clock) (.inl hx)
  have e2 : a.eval y = ek k := hy _ _ (rel.ev y)
  have hg := ob_heap rel hj
  have e4 := mapEntry_run hk ht hg k (hz w)
  obtain ⟨f1, f2, f3⟩ := setBlock_facts hg (mObj ek ev (addM k z m clock).1 (addM k z m clock).2)
  obtain ⟨G', hr'⟩ := rel.reOb hj f1 f2 f3 (mObj_no _ _ _ _) (setBlock_calm hg (mObj_no _ _ _ _) (mObj_no _ _ _ _))
  have hrep : Rep G'.imm (.tup [r, .v (.int .i64 ((entM k z m clock).2 : Nat))]) (.tuple #[ev (entM k z m clock).1, goInt (entM k z m clock).2]) := by
    refine .tup [_, _] rfl fun i p q hp hq => ?_
    match i, hp, hq with
    | 0, hp, hq => simp at hp hq; subst hp; subst hq; exact hr _
    | 1, hp, hq => simp at hp hq; subst hp; subst hq; exact .v _
    | i + 2, hp, hq => simp at hp
  refine Oper.wp_value (o := ⟨d, .mapEntry t x y, ty, pos, after, gd⟩) (v := .tuple #[ev (entM k z m clock).1, goInt (entM k z m clock).2]) ?_ ⟨_, G', hK, hr'.put d _ _ hrep (fun _ _ => trivial), put_size _ _ _⟩
  simp only [execOp, e1, e2, Sem.run_bind, e4, Result.andThen_ok, Sem.run_pure]
theorem entryStoreR {t : TypeId} {ek : α → Value} {ev : β → Value} {x y z : Operand} {j g : Nat} {m : List (α × β × Nat)} {clock : Nat} (i : Nat) (e0 : α × β × Nat) (v : β) (hs : StampM m clock) (hi : m[i]? = some e0) (hx : s.ev x = .v (.map (some g))) (hj : s.t j = .ob true g (mObj ek ev m clock))
    (hy : s.ev y = .v (.int .i64 (e0.2.2 : Nat))) (hz : ∀ I u, Rep I (s.ev z) u → u = ev v) (hK : (∃ I u, Rep I (s.ev z) u) → @force (.ob true g (mObj ek ev (m.modify i fun e => (e.1, v, e.2.2)) clock)) ⟨fun q => K (s.set j q)⟩) :
    aop P ops ⟨none, .entryStore t x y z, ty, pos, after, gd⟩ s K := by
  unfold aop
  simp only
  intro B F w0 I0 G a w Q rel
  have e1 : a.eval x = .map (some g) := obW_of rel (m := true) (o := mObj ek ev m clock) (.inl hx)
  have e2 : a.eval y = goInt e0.2.2 := by
    have h := rel.ev y
    rw [hy] at h
    generalize a.eval y = u at h
    cases h; rfl
  have e3 : a.eval z = ev v := hz _ _ (rel.ev z)
  have hg := ob_heap rel hj
  have e4 := entryStore_run (P := P) (t := t) hg hs hi v
  obtain ⟨f1, f2, f3⟩ := setBlock_facts hg (mObj ek ev (m.modify i fun e => (e.1, v, e.2.2)) clock)
  obtain ⟨G', hr⟩ := rel.reOb hj f1 f2 f3 (mObj_no _ _ _ _) (setBlock_calm hg (mObj_no _ _ _ _) (mObj_no _ _ _ _))
  refine Oper.wp_skip' (o := ⟨none, .entryStore t x y z, ty, pos, after, gd⟩) ?_ rfl ⟨_, G', hK ⟨_, _, rel.ev z⟩, hr, rfl⟩
  simp only [execOp, e1, e2, e3, Sem.run_bind, e4, Result.andThen_ok, Sem.run_pure]
theorem rangeR {t kt e : TypeId} {ek : α → Value} {ev : β → Value} (ht : P.underlying t = some (.map kt e)) {x : Operand} {j g : Nat} {m : List (α × β × Nat)} {clock : Nat} (hx : s.ev x = .v (.map (some g))) (hj : s.t j = .ob true g (mObj ek ev m clock))
    (hK : ∀ it, @force (.ob false it (.mapIter (some g) clock #[] clock)) ⟨fun v => K (s.put d v)⟩) : aop P ops ⟨d, .range t x, ty, pos, after, gd⟩ s K := by
  unfold aop
  simp only
  intro B F w0 I0 G a w Q rel
  have e1 : a.eval x = .map (some g) := obW_of rel (m := true) (o := mObj ek ev m clock) (.inl hx)
  have hg : w.heap[g]? = some (.map (m.map (mEnt ek ev)).toArray clock) := ob_heap rel hj
  have hno : NoCells (.map (m.map (mEnt ek ev)).toArray clock) := mObj_no ek ev m clock
  obtain ⟨G', hr⟩ := rel.newOb (.mapIter (some g) clock #[] clock) false (iter_no _ _ _ _) d
  refine Oper.wp_value (o := ⟨d, .range t x, ty, pos, after, gd⟩) (v := obW false w.heap.size) (w' := w.alloc (.mapIter (some g) clock #[] clock)) ?_ ⟨_, G', hK w.heap.size, hr, put_size _ _ _⟩
  simp only [execOp, e1, Instr.range, Sem.run_bind, run_underlying ht, Result.andThen_ok, run_getObj hg hno, Sem.run_pure]
  simp [run_newObj_alloc, obW]
/-- one step of a map's loop: nothing is left, or one entry that was not seen yet -/
theorem nextR {ek : α → Value} {ev : β → Value} {x : Operand} {i j it g since c0 clock : Nat} {seen : Array Nat} {m : List (α × β × Nat)} (hxi : x = .tmp i) (hx : s.t i = .ob false it (.mapIter (some g) since seen c0)) (hj : s.t j = .ob true g (mObj ek ev m clock)) (hold : ∀ e ∈ m, e.2.2 < since) (hsc : since ≤ c0)
    (h0 : (∀ e ∈ m, e.2.2 ∈ seen) → @force (.tup [.v (.bool false)]) ⟨fun v => K (s.put d v)⟩)
    (h1 : ∀ e ∈ m, ¬ e.2.2 ∈ seen → @force (.ob false it (.mapIter (some g) since (seen.push e.2.2) clock)) ⟨fun q => @force (.tup [.v (.bool true), .v (ek e.1), .v (ev e.2.1)]) ⟨fun v => K ((s.set i q).put d v)⟩⟩) :
    aop P ops ⟨d, .next x false, ty, pos, after, gd⟩ s K := by
  unfold aop
  simp only
  intro B F w0 I0 G a w Q rel
  have e1 : a.eval x = .pointer (some ⟨it, 0, none⟩) := obW_of rel (m := false) (o := .mapIter (some g) since seen c0) (.inr (by rw [hxi]; exact hx))
  have hg : w.heap[g]? = some (.map (m.map (mEnt ek ev)).toArray clock) := ob_heap rel hj
  have hr := ob_heap rel hx
  have hleft : ∀ e : MapEntry, e ∈ (leftOf (m.map (mEnt ek ev)).toArray seen).toList ↔ ∃ e' ∈ m, mEnt ek ev e' = e ∧ ¬ e.born ∈ seen := fun e => by
    unfold leftOf
    simp only [Array.toList_filter, List.mem_filter, List.mem_map, Bool.not_eq_true', Array.contains_eq_mem, decide_eq_false_iff_not]
    constructor
    · rintro ⟨⟨e', h1, h2⟩, h3⟩; exact ⟨e', h1, h2, h3⟩
    · rintro ⟨e', h1, h2, h3⟩; exact ⟨⟨e', h1, h2⟩, h3⟩
  rcases run_next_at (P := P) w ty it g since c0 seen (m.map (mEnt ek ev)).toArray clock hr hg (fun x hx => by
    simp only [List.mem_map] at hx
    obtain ⟨e, he, rfl⟩ := hx
    exact hold e he) hsc with ⟨h2, h3⟩ | ⟨e, he, w1, hw1, h3⟩
  · have hall : ∀ e ∈ m, e.2.2 ∈ seen := fun e he => by
      apply Classical.byContradiction
      intro hn
      have := (hleft (mEnt ek ev e)).2 ⟨e, he, rfl, hn⟩
      rw [← Array.length_toList, List.length_eq_zero_iff] at h2
      rw [h2] at this; simp at this
    refine Oper.wp_value (o := ⟨d, .next x false, ty, pos, after, gd⟩) (v := .tuple #[.bool false]) (w' := w) ?_ ⟨_, G, h0 hall, rel.put d _ _ (.tup [_] rfl fun i p q hp hq => ?_) (fun _ _ => trivial), put_size _ _ _⟩
    · simp only [execOp, e1, Sem.run_bind, h3, Result.andThen_ok, Sem.run_pure]
    · match i, hp, hq with
      | 0, hp, hq => simp at hp hq; subst hp; subst hq; exact .v _
      | i + 1, hp, hq => simp at hp
  · obtain ⟨e', he', rfl, hns⟩ := (hleft e).1 he
    have hr1 : w1.heap[it]? = some (.mapIter (some g) since seen c0) := by rcases hw1 with rfl | rfl <;> exact hr
    have hcalm : Calm w w1 := by rcases hw1 with rfl | rfl; exact Calm.refl _; exact Calm.drew w
    have hheap : w1.heap = w.heap := by rcases hw1 with rfl | rfl <;> rfl
    obtain ⟨f1, f2, f3⟩ := setBlock_facts hr1 (.mapIter (some g) since (seen.push (mEnt ek ev e').born) clock)
    obtain ⟨G', hr'⟩ := rel.reOb hx (w' := setBlock w1 it (.mapIter (some g) since (seen.push (mEnt ek ev e').born) clock)) (fun b hb => by rw [f1 b hb, hheap]) f2 (by rw [f3, hheap]) (iter_no _ _ _ _) (hcalm.trans (setBlock_calm hr1 (iter_no _ _ _ _) (iter_no _ _ _ _)))
    refine Oper.wp_value (o := ⟨d, .next x false, ty, pos, after, gd⟩) (v := .tuple #[.bool true, ek e'.1, ev e'.2.1]) ?_ ⟨_, G', h1 e' he' hns, hr'.put d _ _ (.tup [_, _, _] rfl fun i p q hp hq => ?_) (fun _ _ => trivial), put_size _ _ _⟩
    · simp only [execOp, e1, Sem.run_bind, h3, Result.andThen_ok, Sem.run_pure]
      rfl
    · match i, hp, hq with
      | 0, hp, hq => simp at hp hq; subst hp; subst hq; exact .v _
      | 1, hp, hq => simp at hp hq; subst hp; subst hq; exact .v _
      | 2, hp, hq => simp at hp hq; subst hp; subst hq; exact .v _
      | i + 3, hp, hq => simp at hp
theorem entryR {ek : α → Value} {ev : β → Value} {x : Operand} {i j it g since clock : Nat} {seen : Array Nat} {m : List (α × β × Nat)} (e : α × β × Nat) (r : AV) (hxi : x = .tmp i) (hx : s.t i = .ob false it (.mapIter (some g) since (seen.push e.2.2) clock)) (hj : s.t j = .ob true g (mObj ek ev m clock)) (he : e ∈ m) (hs : StampM m clock)
    (hr : ∀ I, Rep I r (ev e.2.1)) (hK : @force (.tup [.v (ek e.1), r]) ⟨fun v => @shiftK (s.put d v) ⟨K⟩⟩) : aop P ops ⟨d, .entry x, ty, pos, after, gd⟩ s K := by
  unfold aop
  simp only
  intro B F w0 I0 G a w Q rel
  have e1 : a.eval x = .pointer (some ⟨it, 0, none⟩) := obW_of rel (m := false) (o := .mapIter (some g) since (seen.push e.2.2) clock) (.inr (by rw [hxi]; exact hx))
  have hg : w.heap[g]? = some (.map (m.map (mEnt ek ev)).toArray clock) := ob_heap rel hj
  have hri := ob_heap rel hx
  have h3 := run_entry_at (P := P) w it g since seen (m.map (mEnt ek ev)).toArray clock (mEnt ek ev e) hri hg (by simp only [List.mem_map]; exact ⟨e, he, rfl⟩) (by
    have : ((m.map (mEnt ek ev)).toArray.toList.map (·.born)) = m.map (·.2.2) := by simp [mEnt, Function.comp_def]
    rw [this]; exact hs.1)
  have hput := rel.put d (.tup [.v (ek e.1), r]) (.tuple #[ek e.1, ev e.2.1]) (.tup [_, _] rfl fun i p q hp hq => by
    match i, hp, hq with
    | 0, hp, hq => simp at hp hq; subst hp; subst hq; exact .v _
    | 1, hp, hq => simp at hp hq; subst hp; subst hq; exact hr _
    | i + 2, hp, hq => simp at hp) (fun _ _ => trivial)
  obtain ⟨s', G', hk', hr'⟩ := hK _ _ _ _ _ _ _ hput
  refine Oper.wp_value (o := ⟨d, .entry x, ty, pos, after, gd⟩) (v := .tuple #[ek e.1, ev e.2.1]) (w' := w) ?_ ⟨s', G', hk', hr', put_size _ _ _⟩
  simp only [execOp, e1, Sem.run_bind, h3, Result.andThen_ok, Sem.run_pure]
  rfl
end
end
end Go.Rw
