/- Parts of the proof: what is used by the law. No condition. -/
import Derived.WalkKit
import Derived.RowKit3
import Derived.Laws.Tables
import Derived.Test.YtjbbfiagijjdoaaGreatRwAA
set_option linter.unusedSimpArgs false
set_option linter.unusedVariables false
/- Abstract values: what a Go value says, without the heap. No condition. -/
namespace Go.Rw

/-- Who may write to a slice behind its end. -/
inductive Tag where
  | no
  | nil
  | full
  | live (e s : Nat) (pu : Bool)

/-- Abstract values. -/
inductive AV where
  | v (x : Value)
  | sl (tag : Tag) (rows : List (List AV))
  | ea (row : List AV) (off : Nat)
  | ptr (b off : Nat)
  | agg (cells : List AV)
  | tup (vs : List AV)
  | fn (f : FuncId) (cap : List AV)
  | sm (b off n c : Nat)
  | mn
  | ob (m : Bool) (g : Nat) (o : Obj)

/-- may this stand in a cell of memory? -/
def cellAV : AV → Bool
  | .agg _ | .tup _ | .ob _ _ _ => false
  | .v x => x.oneCell'
  | _ => true

/-- what names an object that is no memory of cells: a map, or a pointer -/
def obW : Bool → Nat → Value
  | true, g => .map (some g)
  | false, g => .pointer (some ⟨g, 0, none⟩)

abbrev Imm := Nat → Nat → Option Value

def maxLen : Nat := 281474976710656

/-- An abstract value says what a Go value is, where the cells in 'I' never change. -/
inductive Rep (I : Imm) : AV → Value → Prop
  | v (x : Value) : Rep I (.v x) x
  | nil (tag : Tag) : Rep I (.sl tag []) (.slice none 0 0)
  | empty (tag : Tag) (ht : tag ≠ .nil) (a : Addr) (c : Nat) : Rep I (.sl tag []) (.slice (some a) 0 c)
  | sl {tag : Tag} {rows : List (List AV)} {b o cap : Nat} (s : Nat) (c : Nat → Nat → Value) (ht : tag ≠ .nil)
      (hcap : rows.length ≤ cap) (hlen : rows.length ≤ maxLen)
      (hs : ∀ (i : Nat) (r : List AV), rows[i]? = some r → r.length = s)
      (hk : ∀ (i : Nat) (r : List AV) (j : Nat) (x : AV), rows[i]? = some r → r[j]? = some x → cellAV x = true)
      (hi : ∀ i j, i < rows.length → j < s → I b (o + i * s + j) = some (c i j))
      (hr : ∀ (i : Nat) (r : List AV) (j : Nat) (x : AV), rows[i]? = some r → r[j]? = some x → Rep I x (c i j)) :
      Rep I (.sl tag rows) (.slice (some ⟨b, o, none⟩) rows.length cap)
  | ea {row : List AV} {off b o : Nat} (c : Nat → Value)
      (hi : ∀ j, j < row.length → I b (o + j) = some (c j))
      (hr : ∀ (j : Nat) (x : AV), row[j]? = some x → Rep I x (c j)) :
      Rep I (.ea row off) (.pointer (some ⟨b, o + off, none⟩))
  | ptr (b off : Nat) : Rep I (.ptr b off) (.pointer (some ⟨b, off, none⟩))
  | agg {cells : List AV} (cs : List Value) (hl : cells.length = cs.length)
      (hr : ∀ (j : Nat) (x : AV) (y : Value), cells[j]? = some x → cs[j]? = some y → Rep I x y) : Rep I (.agg cells) (.agg cs.toArray)
  | tup {vs : List AV} (cs : List Value) (hl : vs.length = cs.length)
      (hr : ∀ (j : Nat) (x : AV) (y : Value), vs[j]? = some x → cs[j]? = some y → Rep I x y) : Rep I (.tup vs) (.tuple cs.toArray)
  | fn {f : FuncId} {cap : List AV} (cs : List Value) (hl : cap.length = cs.length)
      (hr : ∀ (j : Nat) (x : AV) (y : Value), cap[j]? = some x → cs[j]? = some y → Rep I x y) : Rep I (.fn f cap) (.func (.func f) #[] cs.toArray)
  | sm (b off n cap : Nat) (hc : n ≤ cap) (hlen : n ≤ maxLen) (hcm : cap ≤ Go.maxLen) : Rep I (.sm b off n cap) (.slice (some ⟨b, off, none⟩) n cap)
  | mn (a : Option Addr) : Rep I .mn (.slice a 0 0)
  | ob (m : Bool) (g : Nat) (o : Obj) : Rep I (.ob m g o) (obW m g)

def Sub (I I' : Imm) : Prop := ∀ b i v, I b i = some v → I' b i = some v

theorem Sub.refl (I : Imm) : Sub I I := fun _ _ _ h => h
theorem Sub.trans {I J K : Imm} (h : Sub I J) (h' : Sub J K) : Sub I K := fun b i v e => h' b i v (h b i v e)

theorem Rep.mono {I I' : Imm} (hI : Sub I I') {x : AV} {y : Value} (h : Rep I x y) : Rep I' x y := by
  induction h with
  | v x => exact .v x
  | nil t => exact .nil t
  | empty t ht a c => exact .empty t ht a c
  | sl s c ht hcap hlen hs hk hi _ ih => exact .sl s c ht hcap hlen hs hk (fun i j h1 h2 => hI _ _ _ (hi i j h1 h2)) ih
  | ea c hi _ ih => exact .ea c (fun j hj => hI _ _ _ (hi j hj)) ih
  | ptr b o => exact .ptr b o
  | agg cs hl _ ih => exact .agg cs hl ih
  | tup cs hl _ ih => exact .tup cs hl ih
  | fn cs hl _ ih => exact .fn cs hl ih
  | sm b o n c h1 h2 h3 => exact .sm b o n c h1 h2 h3
  | mn a => exact .mn a
  | ob m g o => exact .ob m g o

/-- The same value, without the right to write. -/
def dead1 : AV → AV
  | .sl _ r => .sl .no r
  | .ob m g _ => .v (obW m g)
  | x => x

@[simp] theorem dead1_v (x : Value) : dead1 (.v x) = .v x := rfl
@[simp] theorem dead1_sl (t : Tag) (r : List (List AV)) : dead1 (.sl t r) = .sl .no r := rfl
@[simp] theorem dead1_ea (r : List AV) (o : Nat) : dead1 (.ea r o) = .ea r o := rfl
@[simp] theorem dead1_ptr (b o : Nat) : dead1 (.ptr b o) = .ptr b o := rfl
@[simp] theorem dead1_agg (c : List AV) : dead1 (.agg c) = .agg c := rfl
@[simp] theorem dead1_tup (c : List AV) : dead1 (.tup c) = .tup c := rfl
@[simp] theorem dead1_fn (f : FuncId) (c : List AV) : dead1 (.fn f c) = .fn f c := rfl
@[simp] theorem dead1_mn : dead1 .mn = .mn := rfl
@[simp] theorem dead1_ob (m : Bool) (g : Nat) (o : Obj) : dead1 (.ob m g o) = .v (obW m g) := rfl
@[simp] theorem dead1_sm (b o n c : Nat) : dead1 (.sm b o n c) = .sm b o n c := rfl
@[simp] theorem dead1_dead1 (x : AV) : dead1 (dead1 x) = dead1 x := by cases x <;> rfl

theorem Rep.dead {I : Imm} {x : AV} {y : Value} (h : Rep I x y) : Rep I (dead1 x) y := by
  cases h with
  | v => exact .v _
  | nil t => exact .nil .no
  | empty t ht a c => exact .empty .no (by simp) a c
  | sl s c ht hcap hlen hs hk hi hr => exact .sl s c (by simp) hcap hlen hs hk hi hr
  | ea c hi hr => exact .ea c hi hr
  | ptr b o => exact .ptr b o
  | agg cs hl hr => exact .agg cs hl hr
  | tup cs hl hr => exact .tup cs hl hr
  | fn cs hl hr => exact .fn cs hl hr
  | sm b o n c h1 h2 h3 => exact .sm b o n c h1 h2 h3
  | mn a => exact .mn a
  | ob => exact .v _

/-- A constant's abstract value. -/
def c2a : Value → AV
  | .slice none 0 0 => .sl .nil []
  | .agg cs => .agg (cs.toList.map fun | .slice none 0 0 => .sl .no [] | x => .v x)
  | x => .v x

theorem Rep.c2a (I : Imm) (x : Value) : Rep I (c2a x) x := by
  unfold Rw.c2a
  split
  · exact .nil _
  · rename_i cs
    have : cs = cs.toList.toArray := by simp
    conv => rhs; rw [this]
    refine .agg cs.toList (by simp) ?_
    intro j x y hx hy
    simp only [List.getElem?_map, hy, Option.map_some, Option.some.injEq] at hx
    subst hx
    split
    · exact .nil _
    · exact .v _
  · exact .v _

inductive Own where
  | obj
  | slot (i : Nat)
  | cell (b j : Nat)

structure Ghost where
  imm : Imm
  own : Nat → Option Own

/-- what the rows' cells say leans on no cell of the block itself -/
def PureR (I : Imm) (g : Nat) (rows : List (List AV)) (s : Nat) (cur : Array Value) : Prop :=
  ∀ (i : Nat) (r : List AV) (j : Nat) (x : AV), rows[i]? = some r → r[j]? = some x → ∃ v, cur[i * s + j]? = some v ∧ Rep (fun k n => if k = g then none else I k n) x v

theorem PureR.mono {I I' : Imm} {g : Nat} {rows : List (List AV)} {s : Nat} {cur : Array Value} (h : PureR I g rows s cur) (hs : Sub I I') : PureR I' g rows s cur := by
  intro i r j x hi hj
  obtain ⟨v, h1, h2⟩ := h i r j x hi hj
  refine ⟨v, h1, h2.mono fun k n v hk => ?_⟩
  by_cases hg : k = g
  · simp [hg] at hk
  · simp only [hg, if_false] at hk ⊢; exact hs _ _ _ hk

/-- A slice that may be appended to in place: nobody relies on what lies behind its end. (full: there is no room at all.) -/
def LiveOK (G : Ghost) (w : World) (p : Own) : AV → Value → Prop
  | .sl (.live _ s pu) rows, y => (rows = [] ∧ y = .slice none 0 0) ∨ ∃ g cap cur T, y = .slice (some ⟨g, 0, none⟩) rows.length cap ∧ G.own g = some p ∧
      (∀ i, rows.length * s ≤ i → G.imm g i = none) ∧ (pu = true → PureR G.imm g rows s cur) ∧ w.heap[g]? = some (.cells cur T (0, 0)) ∧ rows.length ≤ cap ∧ cap ≤ Go.maxLen ∧ cur.size = cap * s ∧ (∀ r ∈ rows, r.length = s)
  | .sl .full _, y => ∃ a n, y = .slice a n n
  | .ob _ g o, _ => G.own g = some p ∧ w.heap[g]? = some o
  | _, _ => True

theorem LiveOK.dead {G : Ghost} {w : World} {p : Own} (x : AV) (y : Value) : LiveOK G w p (dead1 x) y := by
  cases x <;> simp [dead1, LiveOK]

theorem LiveOK.of_dead {G : Ghost} {w : World} {p : Own} {x : AV} {y : Value} (h : dead1 x = x) : LiveOK G w p x y := by
  rw [← h]; exact LiveOK.dead x y

/-- Abstract states: the slots, and the objects that the call may write. -/
structure ASt where
  n : Nat
  t : Nat → AV
  h : Nat → Option (List AV)

def upd {α : Type} (f : Nat → α) (i : Nat) (x : α) : Nat → α := fun j => if j = i then x else f j

def ASt.set (s : ASt) (d : Nat) (x : AV) : ASt := if d < s.n then { s with t := upd s.t d x } else s
def ASt.put (s : ASt) (d : Option Tmp) (x : AV) : ASt := match d with | some d => s.set d x | none => s
def ASt.kill (s : ASt) (d : Nat) : ASt := s.set d (dead1 (s.t d))

/-- the right to write is taken from a place -/
def ASt.killAt (s : ASt) : Own → ASt
  | .slot d => s.kill d
  | .cell b j => { s with h := upd s.h b ((s.h b).map fun cs => cs.modify j dead1) }
  | .obj => s

def ASt.ev (s : ASt) : Operand → AV
  | .tmp t => s.t t
  | .const c => c2a c
  | .global g => .ptr g 0
  | .func f => .fn f []

/-- A cell's value that can be stored. -/
def isCell (y : Value) : Prop := y.oneCell' = true

structure HRel (h : Nat → Option (List AV)) (G : Ghost) (w : World) : Prop where
  imm : ∀ b i v, G.imm b i = some v → w.cell? ⟨b, i, none⟩ = some v
  obj : ∀ b cells, h b = some cells → G.own b = some .obj ∧ ∃ arr T, w.heap[b]? = some (.cells arr T (0, 0)) ∧ arr.size = cells.length ∧
    ∀ j x y, cells[j]? = some x → arr[j]? = some y → Rep G.imm x y ∧ LiveOK G w (.cell b j) x y
  excl : ∀ b, G.own b = some .obj → ∀ i, G.imm b i = none
  own : ∀ b o, G.own b = some o → b < w.heap.size

/-- What a run leaves alone: the system, what was written, what is frozen. -/
structure Calm (w w' : World) : Prop where
  os : w'.os = w.os
  out : w'.output = w.output
  frozen : ∀ a, w'.frozen? a = w.frozen? a
  tape : w'.tape = w.tape

theorem Calm.refl (w : World) : Calm w w := ⟨rfl, rfl, fun _ => rfl, rfl⟩
theorem Calm.trans {w w1 w2 : World} (h : Calm w w1) (h' : Calm w1 w2) : Calm w w2 := ⟨h'.os.trans h.os, h'.out.trans h.out, fun a => (h'.frozen a).trans (h.frozen a), h'.tape.trans h.tape⟩
theorem Calm.drew (w : World) : Calm w w.drew := ⟨rfl, rfl, fun _ => rfl, rfl⟩
theorem Calm.alloc (w : World) (arr : Array Value) (T : TypeId) : Calm w (w.alloc (.cells arr T)) := ⟨rfl, rfl, fun a => Go.RowKit.frozen?_alloc_cells w arr T a, rfl⟩
theorem Calm.setRow (w : World) (g : Nat) (cur : Array Value) (e : TypeId) (cs : Array Value) (hg : w.heap[g]? = some (.cells cur e (0, 0))) : Calm w (w.setRow g cs) :=
  ⟨rfl, rfl, fun a => by
    by_cases hb : a.block = g
    · subst hb; simp [World.frozen?, setRow_heap w a.block cur cs e (0, 0) hg, hg]
    · simp [World.frozen?, setRow_other w g a.block cs hb], rfl⟩

structure Rel (B : Nat) (F : Nat → Prop) (w0 : World) (I0 : Imm) (s : ASt) (G : Ghost) (a : Act) (w : World) : Prop where
  hrel : HRel s.h G w
  size : a.tmps.size = s.n
  tmps : ∀ i, Rep G.imm (s.t i) (a.tmps.getD i undef) ∧ LiveOK G w (.slot i) (s.t i) (a.tmps.getD i undef)
  defers : a.defers = []
  below : ∀ b, b < B → ¬ F b → w.heap[b]? = w0.heap[b]?
  base : B ≤ w.heap.size
  ownB : ∀ b o, G.own b = some o → B ≤ b ∨ F b
  immB : ∀ b, b < B → ¬ F b → G.imm b = I0 b
  sub0 : Sub I0 G.imm
  calm : Calm w0 w

theorem Rel.ev {B : Nat} {F : Nat → Prop} {w0 : World} {I0 : Imm} {s : ASt} {G : Ghost} {a : Act} {w : World}
    (r : Rel B F w0 I0 s G a w) (x : Operand) : Rep G.imm (s.ev x) (a.eval x) := by
  cases x with
  | tmp t => exact (r.tmps t).1
  | const c => exact .c2a _ _
  | global g => exact .ptr g 0
  | func f => exact .fn (cap := []) [] rfl (by simp)

/-- What a step may do to what was there: nothing. -/
structure Ext (w : World) (I : Imm) (w' : World) (I' : Imm) : Prop where
  heap : ∀ b, b < w.heap.size → w'.heap[b]? = w.heap[b]?
  size : w.heap.size ≤ w'.heap.size
  old : ∀ b, b < w.heap.size → I' b = I b
  imm : ∀ b i v, I' b i = some v → w'.cell? ⟨b, i, none⟩ = some v
  calm : Calm w w'

theorem cell_lt {w : World} {b i : Nat} {v : Value} (h : w.cell? ⟨b, i, none⟩ = some v) : b < w.heap.size :=
  World.block_lt_of_cell? w ⟨b, i, none⟩ h

theorem cell_congr {w w' : World} {b : Nat} (h : w'.heap[b]? = w.heap[b]?) (i : Nat) : w'.cell? ⟨b, i, none⟩ = w.cell? ⟨b, i, none⟩ := by
  simp [World.cell?, h]

theorem Ext.sub {w w' : World} {I I' : Imm} (h : Ext w I w' I') (hI : ∀ b i v, I b i = some v → w.cell? ⟨b, i, none⟩ = some v) : Sub I I' := fun b i v e => by
  rw [h.old b (cell_lt (hI b i v e))]; exact e

theorem Ext.refl {w : World} {I : Imm} (hI : ∀ b i v, I b i = some v → w.cell? ⟨b, i, none⟩ = some v) : Ext w I w I :=
  ⟨fun _ _ => rfl, Nat.le_refl _, fun _ _ => rfl, hI, Calm.refl w⟩

theorem Ext.trans {w w₁ w₂ : World} {I I₁ I₂ : Imm} (h : Ext w I w₁ I₁) (h' : Ext w₁ I₁ w₂ I₂) : Ext w I w₂ I₂ :=
  ⟨fun b hb => (h'.heap b (Nat.lt_of_lt_of_le hb h.size)).trans (h.heap b hb), Nat.le_trans h.size h'.size,
   fun b hb => (h'.old b (Nat.lt_of_lt_of_le hb h.size)).trans (h.old b hb), h'.imm, h.calm.trans h'.calm⟩

theorem LiveOK.ext {G : Ghost} {w w' : World} {I' : Imm} {p : Own} {x : AV} {y : Value} (h : LiveOK G w p x y) (e : Ext w G.imm w' I') (hs : Sub G.imm I') :
    LiveOK { G with imm := I' } w' p x y := by
  cases x with
  | sl tag rows =>
    cases tag with
    | live et s pu =>
      rcases h with h | ⟨g, cap, cur, T, hy, ho, hi, hpu, hh, hc⟩
      · exact .inl h
      · have hb : g < w.heap.size := by
          rcases Nat.lt_or_ge g w.heap.size with h' | h'
          · exact h'
          · simp [Array.getElem?_eq_none h'] at hh
        exact .inr ⟨g, cap, cur, T, hy, ho, fun i h1 => by show I' g i = none; rw [e.old g hb]; exact hi i h1, fun q => (hpu q).mono hs, by rw [e.heap g hb]; exact hh, hc⟩
    | full => exact h
    | _ => trivial
  | ob v g o =>
    obtain ⟨h1, h2⟩ := h
    have hb : g < w.heap.size := by
      rcases Nat.lt_or_ge g w.heap.size with h' | h'
      · exact h'
      · simp [Array.getElem?_eq_none h'] at h2
    exact ⟨h1, by rw [e.heap g hb]; exact h2⟩
  | _ => trivial

theorem HRel.ext {h : Nat → Option (List AV)} {G : Ghost} {w w' : World} {I' : Imm} (r : HRel h G w) (e : Ext w G.imm w' I') :
    HRel h { G with imm := I' } w' where
  imm := e.imm
  obj := fun b cells hb => by
    obtain ⟨ho, arr, T, hh, hsz, hc⟩ := r.obj b cells hb
    have hlt := r.own b _ ho
    refine ⟨ho, arr, T, by rw [e.heap b hlt]; exact hh, hsz, fun j x y hx hy => ?_⟩
    exact ⟨(hc j x y hx hy).1.mono (e.sub r.imm), (hc j x y hx hy).2.ext e (e.sub r.imm)⟩
  excl := fun b ho i => by
    show I' b i = none
    rw [e.old b (r.own b _ ho)]; exact r.excl b ho i
  own := fun b o ho => Nat.lt_of_lt_of_le (r.own b o ho) e.size

theorem Rel.ext {B : Nat} {F : Nat → Prop} {w0 : World} {I0 : Imm} {s : ASt} {G : Ghost} {a : Act} {w w' : World} {I' : Imm}
    (r : Rel B F w0 I0 s G a w) (e : Ext w G.imm w' I') : Rel B F w0 I0 s { G with imm := I' } a w' where
  hrel := r.hrel.ext e
  size := r.size
  tmps := fun i => ⟨(r.tmps i).1.mono (e.sub r.hrel.imm), (r.tmps i).2.ext e (e.sub r.hrel.imm)⟩
  defers := r.defers
  below := fun b hb hF => (e.heap b (Nat.lt_of_lt_of_le hb r.base)).trans (r.below b hb hF)
  base := Nat.le_trans r.base e.size
  ownB := r.ownB
  immB := fun b hb hF => (e.old b (Nat.lt_of_lt_of_le hb r.base)).trans (r.immB b hb hF)
  sub0 := r.sub0.trans (e.sub r.hrel.imm)
  calm := r.calm.trans e.calm

theorem getD_set (a : Array Value) (d i : Nat) (v : Value) : (a.setIfInBounds d v).getD i undef = if i = d ∧ d < a.size then v else a.getD i undef := by
  simp only [Array.getD_eq_getD_getElem?, Array.getElem?_setIfInBounds]
  by_cases h : d = i
  · subst h
    by_cases h2 : d < a.size
    · simp [h2]
    · simp [h2]
  · have h' : ¬ i = d := fun e => h e.symm
    simp [h, h']

theorem Rel.set {B : Nat} {F : Nat → Prop} {w0 : World} {I0 : Imm} {s : ASt} {G : Ghost} {a : Act} {w : World}
    (r : Rel B F w0 I0 s G a w) (d : Nat) (x : AV) (y : Value) (hx : Rep G.imm x y) (hl : LiveOK G w (.slot d) x y) :
    Rel B F w0 I0 (s.set d x) G (a.put (some d) y) w := by
  unfold ASt.set
  by_cases hd : d < s.n
  · simp only [hd, if_true]
    refine ⟨r.hrel, by simpa [Act.put] using r.size, fun i => ?_, r.defers, r.below, r.base, r.ownB, r.immB, r.sub0, r.calm⟩
    simp only [Act.put, getD_set, upd]
    by_cases hi : i = d
    · subst hi
      have : i < a.tmps.size := by rw [r.size]; exact hd
      simp only [this, and_self, if_true]
      exact ⟨hx, hl⟩
    · simp only [hi, false_and, if_false]; exact r.tmps i
  · simp only [hd, if_false]
    refine ⟨r.hrel, by simpa [Act.put] using r.size, fun i => ?_, r.defers, r.below, r.base, r.ownB, r.immB, r.sub0, r.calm⟩
    simp only [Act.put, getD_set]
    have : ¬ d < a.tmps.size := by rw [r.size]; exact hd
    simp only [this, and_false, if_false]; exact r.tmps i

theorem Rel.put {B : Nat} {F : Nat → Prop} {w0 : World} {I0 : Imm} {s : ASt} {G : Ghost} {a : Act} {w : World}
    (r : Rel B F w0 I0 s G a w) (d : Option Tmp) (x : AV) (y : Value) (hx : Rep G.imm x y) (hl : ∀ d', d = some d' → LiveOK G w (.slot d') x y) :
    Rel B F w0 I0 (s.put d x) G (a.put d y) w := by
  cases d with
  | none => exact r
  | some d => exact r.set d x y hx (hl d rfl)

/-- Dropping the right to write changes nothing in memory. -/
theorem Rel.kill {B : Nat} {F : Nat → Prop} {w0 : World} {I0 : Imm} {s : ASt} {G : Ghost} {a : Act} {w : World}
    (r : Rel B F w0 I0 s G a w) (d : Nat) : Rel B F w0 I0 (s.kill d) G a w := by
  unfold ASt.kill ASt.set
  split
  · refine ⟨r.hrel, r.size, fun i => ?_, r.defers, r.below, r.base, r.ownB, r.immB, r.sub0, r.calm⟩
    by_cases hi : i = d
    · subst hi
      simp only [upd, if_true]
      exact ⟨(r.tmps i).1.dead, LiveOK.dead _ _⟩
    · simp only [upd, hi, if_false]; exact r.tmps i
  · exact r

end Go.Rw
