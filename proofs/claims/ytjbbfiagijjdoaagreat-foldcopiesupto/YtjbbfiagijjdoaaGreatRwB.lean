/- Parts of the proof: what is used by the law. No condition. -/
import Derived.Test.YtjbbfiagijjdoaaGreatRwA
set_option linter.unusedSimpArgs false
set_option linter.unusedVariables false
/- The operations that only yield a value, over abstract values. No condition. -/
namespace Go.Rw

/-! ### What the program's tables say of a type -/

/-- size in cells, and whether it is a struct or an array -/
def vT (P : Program) (t : TypeId) : Option (Nat × Bool) :=
  match P.info? t, P.underlying t with
  | some i, some (.struct _) => some (i.size, true)
  | some i, some (.array _ _) => some (i.size, true)
  | some i, some _ => some (i.size, false)
  | _, _ => none
/-- of a slice type: the element's type, its size in cells and in bytes -/
def slT (P : Program) (t : TypeId) : Option (TypeId × Nat × Nat) :=
  match P.underlying t with
  | some (.slice e) => (P.info? e).map fun i => (e, i.size, i.bytes)
  | _ => none
/-- of a pointer's array type: length, the element's size -/
def arT (P : Program) (t : TypeId) : Option (Nat × Nat) :=
  match P.underlying t with
  | some (.array n e) => (P.info? e).map fun i => (n, i.size)
  | _ => none
/-- a field's place (for fields of some size) -/
def fT (P : Program) (t : TypeId) (f : Nat) : Option Nat :=
  match P.underlying t with
  | some (.struct fs) => match fs[f]? with
    | some g => match P.info? g.type with
      | some i => if i.size = 0 then none else some g.offset
      | none => none
    | none => none
  | _ => none
/-- a field as a part of a struct's value: place, size, whether it is a struct or an array -/
def fvT (P : Program) (t : TypeId) (f : Nat) : Option (Nat × Nat × Bool) :=
  match P.underlying t with
  | some (.struct fs) => match fs[f]? with
    | some g => (vT P g.type).map fun x => (g.offset, x.1, x.2)
    | none => none
  | _ => none
def z2a : Value → AV
  | .slice none 0 0 => .sl .no []
  | x => .v x
/-- the cells of a type's zero value -/
def zT (P : Program) (t : TypeId) : Option (List AV) :=
  match P.info? t with
  | some i => match i.zero with
    | some z => if (z.cells.toList.map z2a).all cellAV then some (z.cells.toList.map z2a) else none
    | none => none
  | none => none
/-- a new variable's slices are nil -/
def nl : AV → AV
  | .sl .no [] => .sl .nil []
  | x => x
/-- the places of a struct's fields: place and size -/
def sfT (P : Program) (t : TypeId) : Option (List (Nat × Nat)) :=
  match P.underlying t with
  | some (.struct fs) => fs.toList.mapM fun f => (P.info? f.type).map fun i => (f.offset, i.size)
  | _ => none
/-- is it a plain integer type -/
def ikT (P : Program) (t : TypeId) : Option IntKind :=
  match P.underlying t with
  | some (.int k) => some k
  | _ => none

/-! ### Reading cells -/

def cellsAt (n : Nat) (agg : Bool) (cells : List AV) (off : Nat) : Option AV :=
  if agg then (if off + n ≤ cells.length then some (.agg (((cells.drop off).take n).map dead1)) else none) else (cells[off]?).map dead1

def aload (P : Program) (h : Nat → Option (List AV)) (t : TypeId) (a : AV) : Option AV :=
  match vT P t with
  | none => none
  | some x => match a with
    | .ea row off => cellsAt x.1 x.2 row off
    | .ptr b off => match h b with
      | some cells => cellsAt x.1 x.2 cells off
      | none => none
    | _ => none

def Sem.val? {α : Type} : Sem α → Option α
  | .pure a => some a
  | _ => none

@[simp] theorem val?_pure {α : Type} (a : α) : Sem.val? (Pure.pure a : Sem α) = some a := rfl

theorem run_of_val {α : Type} {x : Sem α} {a : α} (h : Sem.val? x = some a) (P : Program) (w : World) : x.run P w = .ok a w := by
  cases x <;> simp [Sem.val?] at h
  subst h; rfl

def isNum : Value → Value → Bool
  | .int .., .int .. | .float .., .float .. | .string _, .string _ => true
  | _, _ => false

/-- operators on numbers and strings -/
def aNum (op : BinOp) (a b : Value) : Option Value :=
  if isNum a b then Sem.val? (Go.binOp op 0 a b) else none

/-- is it bool, or a type made of it -/
def boolT (P : Program) (t : TypeId) : Bool :=
  match P.underlying t with
  | some .bool => true
  | _ => false

/-- is it a pointer type -/
def ptrT (P : Program) (t : TypeId) : Bool :=
  match P.underlying t with
  | some (.pointer _) => true
  | _ => false
/-- what says of a pointer whether it is nil -/
def ptrV (x : AV) : Option Bool := match x with
  | .ptr _ _ => some false
  | .v (.pointer none) => some true
  | _ => none
def isPtrNil (op : BinOp) (y : AV) : Option Bool := match op, y with
  | .eql, .v (.pointer none) => some true
  | .neq, .v (.pointer none) => some false
  | _, _ => none
def aBin (P : Program) (op : BinOp) (t : TypeId) (x y : AV) : Option AV :=
  match op, x, y with
  | .eql, .v (.bool a), .v (.bool b) => if boolT P t then some (.v (.bool (a == b))) else none
  | .neq, .v (.bool a), .v (.bool b) => if boolT P t then some (.v (.bool (a != b))) else none
  | _, x, y => match isPtrNil op y with
    | some want => if ptrT P t then (ptrV x).map fun b => .v (.bool (b == want)) else none
    | none => match x, y with
      | .v a, .v b => (aNum op a b).map .v
      | _, _ => none

def aIdx (i : AV) : Option Int := match i with | .v (.int _ n) => some n | _ => none

def aindexAddr (P : Program) (t : TypeId) (x i : AV) : Option AV :=
  match aIdx i with
  | none => none
  | some n => match x with
    | .sl _ rows => match slT P t with
      | some e => if 0 ≤ n then (match rows[n.toNat]? with | some r => if r.length = e.2.1 then some (.ea r 0) else none | none => none) else none
      | none => none
    | .sm b off len _ => match slT P t with
      | some e => if 0 ≤ n ∧ n < len then some (.ptr b (off + n.toNat * e.2.1)) else none
      | none => none
    | .ptr b off => match arT P t with
      | some e => if 0 ≤ n ∧ n < e.1 then some (.ptr b (off + n.toNat * e.2)) else none
      | none => none
    | _ => none

def aBound (d : Nat) (x : Option AV) : Option Int :=
  match x with
  | none => some d
  | some (.v (.int _ n)) => some n
  | _ => none

def aslice (P : Program) (t : TypeId) (x : AV) (lo hi : Option AV) : Option AV :=
  match x, slT P t with
  | .sl _ rows, some e => match aBound 0 lo, aBound rows.length hi with
    | some l, some h => if 0 ≤ l ∧ l ≤ h ∧ h ≤ rows.length ∧ (∀ r ∈ rows, r.length = e.2.1) then some (.sl .no ((rows.drop l.toNat).take (h.toNat - l.toNat))) else none
    | _, _ => none
  | .sm b off n c, some e => match aBound 0 lo, aBound n hi with
    | some l, some h => if 0 ≤ l ∧ l < h ∧ (h ≤ n ∨ h ≤ c ∧ h ≤ 281474976710656) then some (.sm b (off + l.toNat * e.2.1) (h.toNat - l.toNat) (c - l.toNat))
        else if 0 ≤ l ∧ l = h ∧ h ≤ n then (if l = 0 then some (.sm b off 0 c) else some (.sl .no [])) else none
    | _, _ => none
  | .mn, some _ => match aBound 0 lo, aBound 0 hi with
    | some l, some h => if l = 0 ∧ h = 0 then some .mn else none
    | _, _ => none
  | .ptr b off, none => match arT P t, lo, hi with
    | some e, none, none => if 0 < e.1 ∧ e.1 ≤ 281474976710656 then some (.sm b off e.1 e.1) else none
    | _, _, _ => none
  | _, _ => none

/-- the cells of a value that can be stored -/
def aCells : AV → Option (List AV)
  | .agg cs => if (cs.map dead1).all cellAV then some (cs.map dead1) else none
  | x => if cellAV x then some [dead1 x] else none

def overlay (cells : List AV) (off : Nat) (xs : List AV) : List AV := cells.take off ++ xs ++ cells.drop (off + xs.length)

def afill (place : Nat → Option (Nat × Nat)) (cells : List AV) : List (Nat × AV) → Option (List AV)
  | [] => some cells
  | (i, x) :: rest => match place i with
    | none => none
    | some p => match aCells x with
      | none => none
      | some cs => if cs.length = p.2 ∧ p.1 + p.2 ≤ cells.length then afill place (overlay cells p.1 cs) rest else none

def abuild (P : Program) (t : TypeId) (parts : List (Nat × AV)) : Option AV :=
  match zT P t with
  | none => none
  | some z => match sfT P t with
    | some fs => (afill (fun i => fs[i]?) z parts).map .agg
    | none => match arT P t with
      | some e => (afill (fun i => some (i * e.2, e.2)) z parts).map .agg
      | none => none

/-- the same where the fields that are not named are known to be nil -/
def abuildN (P : Program) (t : TypeId) (parts : List (Nat × AV)) : Option AV :=
  match zT P t with
  | none => none
  | some z => match sfT P t with
    | some fs => (afill (fun i => fs[i]?) (z.map nl) parts).map .agg
    | none => match arT P t with
      | some e => (afill (fun i => some (i * e.2, e.2)) (z.map nl) parts).map .agg
      | none => none

def afield (P : Program) (t : TypeId) (x : AV) (f : Nat) : Option AV :=
  match x, fvT P t f with
  | .agg cs, some (off, n, agg) => cellsAt n agg cs off
  | _, _ => none


/-! ### What they come to in Go -/

section
variable {P : Program} {w : World} {I : Imm}

theorem run_sizeOf' {t : TypeId} {i : TypeInfo} (h : P.info? t = some i) (w : World) : (sizeOf t).run P w = .ok i.size w := by
  simp [sizeOf, typeInfo, h]

theorem vT_some {t : TypeId} {x : Nat × Bool} (h : vT P t = some x) : ∃ i d, P.info? t = some i ∧ P.underlying t = some d ∧ i.size = x.1 ∧ (isAgg t).run P w = .ok x.2 w := by
  unfold vT at h
  cases hi : P.info? t with
  | none => simp [hi] at h
  | some i =>
    cases hd : P.underlying t with
    | none => simp [hi, hd] at h
    | some d =>
      refine ⟨i, d, rfl, rfl, ?_⟩
      cases d <;> simp [hi, hd] at h <;> subst h <;> simp [isAgg, run_underlying hd]

theorem slT_some {t : TypeId} {x : TypeId × Nat × Nat} (h : slT P t = some x) : ∃ i, P.underlying t = some (.slice x.1) ∧ P.info? x.1 = some i ∧ i.size = x.2.1 ∧ i.bytes = x.2.2 := by
  unfold slT at h
  split at h
  · rename_i e he
    cases hi : P.info? e with
    | none => simp [hi] at h
    | some i => simp [hi] at h; subst h; exact ⟨i, he, hi, rfl, rfl⟩
  · simp at h

theorem arT_some {t : TypeId} {x : Nat × Nat} (h : arT P t = some x) : ∃ e i, P.underlying t = some (.array x.1 e) ∧ P.info? e = some i ∧ i.size = x.2 := by
  unfold arT at h
  split at h
  · rename_i n e he
    cases hi : P.info? e with
    | none => simp [hi] at h
    | some i => simp [hi] at h; subst h; exact ⟨e, i, he, hi, rfl⟩
  · simp at h

/-- the cells of a row that never change, loaded -/
theorem load_cells {w : World} {b o n : Nat} {cs : List Value} (hl : cs.length = n) (h : ∀ j v, cs[j]? = some v → w.cell? ⟨b, o + j, none⟩ = some v) :
    (loadCells ⟨b, o, none⟩ n).run P w = .ok cs.toArray w := by
  subst hl
  refine run_loadCells_list w ⟨b, o, none⟩ cs fun j v hj => ?_
  rw [Addr.add_lit]; exact h j v hj

theorem getElem?_map_range {α : Type} (n : Nat) (f : Nat → α) (j : Nat) : ((List.range n).map f)[j]? = if j < n then some (f j) else none := by
  simp only [List.getElem?_map]
  by_cases h : j < n
  · simp [List.getElem?_range h, h]
  · simp [h, Nat.le_of_not_lt h]

theorem run_loadVar_of {t : TypeId} {x : Nat × Bool} (ht : vT P t = some x) {b o : Nat} {cells : List AV} {off : Nat} {r : AV} (c : Nat → Value)
    (hi : ∀ j, j < cells.length → w.cell? ⟨b, o + j, none⟩ = some (c j)) (hr : ∀ (j : Nat) (x : AV), cells[j]? = some x → Rep I x (c j))
    (h : cellsAt x.1 x.2 cells off = some r) : ∃ v, (loadVar t ⟨b, o + off, none⟩).run P w = .ok v w ∧ Rep I r v := by
  obtain ⟨i, d, hinf, _, hsz, hag⟩ := vT_some (w := w) ht
  obtain ⟨n, agg⟩ := x
  unfold cellsAt at h
  cases agg with
  | true =>
    simp only [if_true] at h
    split at h
    · rename_i hle
      obtain rfl := Option.some.inj h
      have hlen : ((List.range n).map fun j => c (off + j)).length = n := by simp
      refine ⟨.agg ((List.range n).map fun j => c (off + j)).toArray, ?_, .agg _ (by simp; omega) fun j x y hx hy => ?_⟩
      · have hl := load_cells (P := P) (w := w) (b := b) (o := o + off) hlen (fun j v hj => by
          rw [getElem?_map_range] at hj
          split at hj
          · obtain rfl := Option.some.inj hj
            rw [Nat.add_assoc]; exact hi _ (by omega)
          · simp at hj)
        simp only at hsz
        subst hsz
        simp only [loadVar, Sem.run_bind, hag, Result.andThen_ok, if_true, run_sizeOf' hinf, hl, Sem.run_pure]
      · rw [getElem?_map_range] at hy
        split at hy
        · obtain rfl := Option.some.inj hy
          simp only [List.getElem?_map, List.getElem?_take, List.getElem?_drop] at hx
          rename_i hj
          simp only [hj, if_true] at hx
          cases hc : cells[off + j]? with
          | none => simp [hc] at hx
          | some z => simp [hc] at hx; subst hx; exact (hr _ _ hc).dead
        · simp at hy
    · simp at h
  | false =>
    simp only [Bool.false_eq_true, if_false] at h
    cases hc : cells[off]? with
    | none => simp [hc] at h
    | some z =>
      simp [hc] at h
      subst h
      have hlt : off < cells.length := by
        rcases Nat.lt_or_ge off cells.length with h' | h'
        · exact h'
        · simp [List.getElem?_eq_none h'] at hc
      refine ⟨c off, ?_, (hr _ _ hc).dead⟩
      simp [loadVar, hag, hi off hlt]

theorem aload_sound {h : Nat → Option (List AV)} {G : Ghost} (hh : HRel h G w) {t : TypeId} {a r : AV} {y : Value} (ha : Rep G.imm a y)
    (hl : aload P h t a = some r) : ∃ v, (Instr.loadAt t y).run P w = .ok v w ∧ Rep G.imm r v := by
  unfold aload at hl
  cases ht : vT P t with
  | none => simp [ht] at hl
  | some x =>
    simp only [ht] at hl
    cases ha with
    | ea c hi hr =>
      rename_i row off b o
      obtain ⟨v, hv, hrep⟩ := run_loadVar_of (P := P) (w := w) (I := G.imm) ht c (fun j hj => hh.imm _ _ _ (hi j hj)) hr hl
      exact ⟨v, by simpa [Instr.loadAt, Instr.sureAddr] using hv, hrep⟩
    | ptr b off =>
      simp only at hl
      cases hb : h b with
      | none => simp [hb] at hl
      | some cells =>
        simp only [hb] at hl
        obtain ⟨_, arr, T, hheap, hsz, hc⟩ := hh.obj b cells hb
        have hcell : ∀ j, j < cells.length → w.cell? ⟨b, 0 + j, none⟩ = some (arr.getD j undef) := fun j hj => by
          have hj' : j < arr.size := by omega
          simp [World.cell?, hheap, hj']
        obtain ⟨v, hv, hrep⟩ := run_loadVar_of (P := P) (w := w) (I := G.imm) ht (fun j => arr.getD j undef) hcell (fun j x hx => by
          have hj : j < cells.length := by
            rcases Nat.lt_or_ge j cells.length with h' | h'
            · exact h'
            · simp [List.getElem?_eq_none h'] at hx
          have hj' : j < arr.size := by omega
          refine (hc j x _ hx ?_).1
          simp [hj']) hl
        rw [Nat.zero_add] at hv
        exact ⟨v, by simpa [Instr.loadAt, Instr.sureAddr] using hv, hrep⟩
    | _ => simp at hl

end
end Go.Rw
