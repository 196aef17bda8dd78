/- Parts of the proof: what is used by the law. No condition. -/
import Derived.Test.YtjbbfiagijjdoaaGreatRwP
set_option linter.unusedSimpArgs false
set_option linter.unusedVariables false
/- Contracts in abstract values; one operation; regions without a draw. No condition. -/
set_option linter.unusedSimpArgs false
set_option linter.unusedVariables false
namespace Go.Rw

/-- what a result allows its owner: it is new -/
def FreshOK (n : Nat) (I : Imm) (w : World) : AV → Value → Prop
  | .sl (.live _ s pu) rows, y => (rows = [] ∧ y = .slice none 0 0) ∨ ∃ g cap cur T, y = .slice (some ⟨g, 0, none⟩) rows.length cap ∧ n ≤ g ∧
      (∀ i, rows.length * s ≤ i → I g i = none) ∧ (pu = true → PureR I g rows s cur) ∧ w.heap[g]? = some (.cells cur T (0, 0)) ∧ rows.length ≤ cap ∧ cap ≤ Go.maxLen ∧ cur.size = cap * s ∧ (∀ r ∈ rows, r.length = s)
  | .sl .full _, y => ∃ a n, y = .slice a n n
  | .ob _ g o, _ => n ≤ g ∧ w.heap[g]? = some o
  | _, _ => True

def NextUpon (P : Program) (Post : Ending → World → Prop) : Result Next → Prop
  | .ok (.enter f args) w' => Calls P f args w' Post
  | .ok (.value v) w' => Post (.returned v) w'
  | _ => False

def Reps (I : Imm) (xs : List AV) (ys : List Value) : Prop :=
  xs.length = ys.length ∧ ∀ (j : Nat) (x : AV) (y : Value), xs[j]? = some x → ys[j]? = some y → Rep I x y

/-- a pure function's contract: it answers some r of R, and nothing that was there has changed -/
def ASpec (P : Program) (f : FuncId) (args : List AV) (R : AV → Prop) : Prop :=
  ∀ (I : Imm) (w : World) (cargs : List Value), (∀ b i v, I b i = some v → w.cell? ⟨b, i, none⟩ = some v) → Reps I args cargs →
    NextUpon P (fun e w' => ∃ v r I', e = .returned v ∧ R r ∧ Ext w I w' I' ∧ Rep I' r v ∧ FreshOK w.heap.size I' w' r v) ((callFunc f cargs.toArray).run P w)

theorem ASpec.mono {P : Program} {f : FuncId} {args : List AV} {R R' : AV → Prop} (h : ASpec P f args R) (hr : ∀ r, R r → R' r) : ASpec P f args R' := by
  intro I w cargs hI ha
  have := h I w cargs hI ha
  generalize (callFunc f cargs.toArray).run P w = q at *
  cases q with
  | ok n w' =>
    cases n <;> simp only [NextUpon] at this ⊢
    · obtain ⟨v, r, I', h1, h2, h3⟩ := this; exact ⟨v, r, I', h1, hr r h2, h3⟩
    · exact this.mono fun e w'' ⟨v, r, I', h1, h2, h3⟩ => ⟨v, r, I', h1, hr r h2, h3⟩
  | halt x w' => exact this

/-- what a result allows its owner, where objects are handed over too: nobody else owns it -/
def HandOK (N : Nat → Prop) (G : Ghost) (w : World) : AV → Value → Prop
  | .sl (.live _ s pu) rows, y => (rows = [] ∧ y = .slice none 0 0) ∨ ∃ g cap cur T, y = .slice (some ⟨g, 0, none⟩) rows.length cap ∧ G.own g = none ∧ N g ∧
      (∀ i, rows.length * s ≤ i → G.imm g i = none) ∧ (pu = true → PureR G.imm g rows s cur) ∧ w.heap[g]? = some (.cells cur T (0, 0)) ∧ rows.length ≤ cap ∧ cap ≤ Go.maxLen ∧ cur.size = cap * s ∧ (∀ r ∈ rows, r.length = s)
  | .sl .full _, y => ∃ a n, y = .slice a n n
  | .ob _ g o, _ => G.own g = none ∧ N g ∧ w.heap[g]? = some o
  | _, _ => True

/-- only what was owned has turned -/
structure Turned (G : Ghost) (w : World) (G' : Ghost) (w' : World) : Prop where
  size : w.heap.size ≤ w'.heap.size
  heap : ∀ b, b < w.heap.size → G.own b = none → w'.heap[b]? = w.heap[b]?
  imm : ∀ b, b < w.heap.size → G.own b = none → G'.imm b = G.imm b
  sub : Sub G.imm G'.imm
  own : ∀ b, b < w.heap.size → G.own b = none → G'.own b = none
  calm : Calm w w'

/-- what owns memory between calls: objects and their cells -/
def NoSlot (G : Ghost) : Prop := ∀ g i, G.own g ≠ some (.slot i)

/-- the contract of a function that may write the objects handed over to it: it answers some r, with the objects as R says -/
def MSpec (P : Program) (f : FuncId) (args : List AV) (h : Nat → Option (List AV)) (R : AV → (Nat → Option (List AV)) → Prop) : Prop :=
  ∀ (G : Ghost) (w : World) (cargs : List Value), HRel h G w → NoSlot G → Reps G.imm args cargs →
    NextUpon P (fun e w' => ∃ v r h' G', e = .returned v ∧ R r h' ∧ HRel h' G' w' ∧ NoSlot G' ∧ Turned G w G' w' ∧ Rep G'.imm r v ∧ HandOK (fun g => w.heap.size ≤ g ∨ G.own g ≠ none) G' w' r v) ((callFunc f cargs.toArray).run P w)

theorem MSpec.mono {P : Program} {f : FuncId} {args : List AV} {h : Nat → Option (List AV)} {R R' : AV → (Nat → Option (List AV)) → Prop} (hh : MSpec P f args h R) (hr : ∀ r h, R r h → R' r h) : MSpec P f args h R' := by
  intro G w cargs hI hn ha
  have := hh G w cargs hI hn ha
  generalize (callFunc f cargs.toArray).run P w = q at *
  cases q with
  | ok n w' =>
    cases n <;> simp only [NextUpon] at this ⊢
    · obtain ⟨v, r, h', G', h1, h2, h3⟩ := this; exact ⟨v, r, h', G', h1, hr r _ h2, h3⟩
    · exact this.mono fun e w'' ⟨v, r, h', G', h1, h2, h3⟩ => ⟨v, r, h', G', h1, hr r _ h2, h3⟩
  | halt x w' => exact this

/-- the same cells, some without the right to write -/
def Weak : List AV → List AV → Prop
  | [], [] => True
  | x :: c, y :: d => (x = y ∨ x = dead1 y) ∧ Weak c d
  | _, _ => False
theorem Weak.refl : ∀ c : List AV, Weak c c
  | [] => trivial
  | _ :: c => ⟨.inl rfl, Weak.refl c⟩
theorem Weak.length : ∀ {c d : List AV}, Weak c d → c.length = d.length
  | [], [], _ => rfl
  | _ :: c, _ :: d, h => by simp [Weak.length h.2]
theorem Weak.get : ∀ {c d : List AV}, Weak c d → ∀ (j : Nat) (x : AV), c[j]? = some x → ∃ y, d[j]? = some y ∧ (x = y ∨ x = dead1 y)
  | [], [], _, j, x, h => by simp at h
  | x :: c, y :: d, hw, j, z, h => by
    cases j with
    | zero => simp at h; subst h; exact ⟨y, rfl, hw.1⟩
    | succ j => exact Weak.get hw.2 j z (by simpa using h)
/-- some of the objects -/
def SubH (h H : Nat → Option (List AV)) : Prop := ∀ b c, h b = some c → ∃ d, H b = some d ∧ Weak c d
theorem SubH.of {h H : Nat → Option (List AV)} (hs : ∀ b c, h b = some c → H b = some c) : SubH h H := fun b c hb => ⟨c, hs b c hb, Weak.refl c⟩
/-- one object -/
def one (b : Nat) (c : List AV) : Nat → Option (List AV) := upd (fun _ => none) b (some c)

/-- what is there, looked at -/
def WeakO (c : List AV) (o : Option (List AV)) : Prop := match o with | some d => Weak c d | none => False
theorem SubH_one {b : Nat} {c : List AV} {H : Nat → Option (List AV)} : SubH (one b c) H ↔ WeakO c (H b) := by
  constructor
  · intro h
    obtain ⟨d, h1, h2⟩ := h b c (by simp [one, upd])
    rw [h1]; exact h2
  · intro h k c' hk
    simp only [one, upd] at hk
    split at hk
    · rename_i hkb
      subst hkb
      obtain rfl := Option.some.inj hk
      unfold WeakO at h
      split at h
      · rename_i d hd; exact ⟨d, hd, h⟩
      · exact h.elim
    · simp at hk

/-- the objects behind a call -/
def mergeH (H h h' : Nat → Option (List AV)) : Nat → Option (List AV) := fun b => match h' b with
  | some c => some c
  | none => if (h b).isSome then none else H b

/-- the state may be looked at in another way -/
def Shift (s : ASt) (K : ASt → Prop) : Prop :=
  ∀ (B : Nat) (F : Nat → Prop) (w0 : World) (I0 : Imm) (G : Ghost) (a : Act) (w : World), Rel B F w0 I0 s G a w → ∃ s' G', K s' ∧ Rel B F w0 I0 s' G' a w
theorem Shift.refl {s : ASt} {K : ASt → Prop} (h : K s) : Shift s K := fun _ _ _ _ G _ _ r => ⟨s, G, h, r⟩
theorem Shift.mono {s : ASt} {K K' : ASt → Prop} (hs : Shift s K) (h : ∀ s, K s → K' s) : Shift s K' := fun B F w0 I0 G a w r =>
  let ⟨s', G', h1, h2⟩ := hs B F w0 I0 G a w r
  ⟨s', G', h s' h1, h2⟩
theorem Shift.trans {s : ASt} {K K' : ASt → Prop} (hs : Shift s K) (h : ∀ s, K s → Shift s K') : Shift s K' := fun B F w0 I0 G a w r =>
  let ⟨s', G', h1, h2⟩ := hs B F w0 I0 G a w r
  h s' h1 B F w0 I0 G' a w h2

/-- a mutable slice, seen as rows -/
def frz0 (b : Nat) (rows : List (List AV)) : AV → AV
  | .sm b' off n c => if b' = b ∧ off = 0 ∧ n ≤ rows.length then .sl .no (rows.take n) else .sm b' off n c
  | x => x
def frz1 (b : Nat) (rows : List (List AV)) : AV → AV
  | .agg cs => .agg (cs.map (frz0 b rows))
  | x => frz0 b rows x
def frz2 (b : Nat) (rows : List (List AV)) : AV → AV
  | .tup vs => .tup (vs.map (frz1 b rows))
  | x => frz1 b rows x
/-- what says the same whatever never changes -/
def flat0 : AV → Bool
  | .v _ => true
  | .ptr _ _ => true
  | .sm _ _ _ _ => true
  | .mn => true
  | _ => false
def flat1 : AV → Bool
  | .agg cs => cs.all flat0
  | x => flat0 x
def flat2 : AV → Bool
  | .tup vs => vs.all flat1
  | x => flat1 x
/-- the cells as rows -/
def chunks (cells : List AV) (rows : List (List AV)) (sz : Nat) : Prop := (∀ r ∈ rows, r.length = sz) ∧ rows.flatten = (cells.take (rows.length * sz)).map dead1 ∧ rows.length * sz ≤ cells.length ∧ ∀ r ∈ rows, ∀ x ∈ r, cellAV x = true

/-- new memory that a call hands back is taken as one's own to write -/
def Thaw (s : ASt) (d : Option Tmp) (K : ASt → Prop) (r : AV) : Prop :=
  ∃ e sz pu rows, r = .sl (.live e sz pu) rows ∧ rows ≠ [] ∧ (pu = true ∨ ∀ r ∈ rows, ∀ x ∈ r, flat0 x = true) ∧
    ∀ (b cap : Nat) (spare : List Value), s.h b = none → rows.length ≤ cap → spare.length + rows.length * sz = cap * sz →
      K ({ s with h := upd s.h b (some (rows.flatten.map dead1 ++ spare.map AV.v)) }.put d (.sm b 0 rows.length cap))

/-- is it what a variable becomes at once? -/
def asgd (ops : List Oper) (d : Option Tmp) : Bool := match d with
  | none => false
  | some d => ops.any fun o => match o.op with
    | .assign (.tmp t) => t == d
    | _ => false
/-- a slice that was built: as rows, or as one's own to write -/
def bsP (e : Option (Nat × Nat × Nat)) (r : AV) (s : ASt) (d : Option Tmp) (K : ASt → Prop) : Prop := match e with
  | some e => if 1 < e.2.1 then (K (s.put d r) ∨ ∃ rows, r = .sl .full rows ∧ Thaw s d K (.sl (.live e.1 e.2.1 true) rows)) else K (s.put d r)
  | none => K (s.put d r)

/-- a call -/
def ACall (P : Program) (g : FuncId) (args : List AV) (s : ASt) (d : Option Tmp) (K : ASt → Prop) : Prop :=
  (∃ R, ASpec P g args R ∧ ∀ r, R r → Shift (s.put d r) K ∨ Thaw s d K r) ∨
  (∃ h R, SubH h s.h ∧ MSpec P g args h R ∧ ∀ r h', R r h' → (∀ b c, h' b = some c → h b = none → s.h b = none) → Shift ({ s with h := mergeH s.h h h' }.put d r) K) ∨
  ∃ b cells rows sz R, s.h b = some cells ∧ chunks cells rows sz ∧ ASpec P g (args.map (frz2 b rows)) R ∧ ∀ r, R r → flat2 r = true ∧ Shift (s.put d r) K

/-- does the region hand this temporary on to where it may be written? -/
def feeds (ops : List Oper) (d : Option Tmp) : Bool :=
  match d with
  | none => false
  | some d => ops.any fun o => match o.op with
    | .call c => (match c.callee with | .builtin .append => true | _ => false) && (match c.args.toList with | .tmp t :: _ => t == d | _ => false)
    | .assign (.tmp t) => t == d
    | .store _ _ (.tmp t) => t == d
    | _ => false

/-- is a built value put into memory? -/
def stored (ops : List Oper) (d : Option Tmp) : Bool :=
  match d with
  | none => false
  | some d => ops.any fun o => match o.op with
    | .store _ _ (.tmp t) => t == d
    | .box _ (.tmp t) => t == d
    | _ => false

/-- what is known to be nil stays known -/
def keepNil : AV → AV
  | .sl .nil [] => .sl .nil []
  | x => dead1 x
def aCellsK : AV → Option (List AV)
  | .agg cs => if (cs.map dead1).all cellAV then some (cs.map keepNil) else none
  | x => if cellAV x then some [keepNil x] else none

/-- one's own slice grows: in its place, or in a new one -/
def growSm (s : ASt) (d : Option Tmp) (K : ASt → Prop) (b n sz : Nat) (cells : List AV) (rows2 : List (List AV)) : Prop :=
  ∀ (b' c' : Nat) (spare : List AV), (b' = b ∨ s.h b' = none) → n + rows2.length ≤ c' → spare.length + (n + rows2.length) * sz = c' * sz →
    K ({ s with h := upd (upd s.h b none) b' (some ((cells.take (n * sz)).map dead1 ++ rows2.flatten.map dead1 ++ spare)) }.put d (.sm b' 0 (n + rows2.length) c'))
def growMn (s : ASt) (d : Option Tmp) (K : ASt → Prop) (sz : Nat) (rows2 : List (List AV)) : Prop :=
  (rows2 = [] → K (s.put d .mn)) ∧ (rows2 ≠ [] → ∀ (b' c' : Nat) (spare : List AV), s.h b' = none → rows2.length ≤ c' → spare.length + rows2.length * sz = c' * sz →
    K ({ s with h := upd s.h b' (some (rows2.flatten.map dead1 ++ spare)) }.put d (.sm b' 0 rows2.length c')))

def isSl : AV → Bool
  | .sl _ _ => true
  | _ => false
/-- does it name no object? -/
def noRef : AV → Bool
  | .v (.map (some _)) => false
  | .v (.pointer (some _)) => false
  | _ => true

/-- a struct's field that is a slice is loaded: the right to write goes with it -/
def aloadOwn (P : Program) (s : ASt) (t : TypeId) (a : AV) : Option (Nat × Nat × AV) :=
  match vT P t with
  | some (_, false) => match a with
    | .ptr b off => match s.h b with
      | some cells => match cells[off]? with
        | some x => if isSl x then some (b, off, x) else none
        | none => none
      | none => none
    | _ => none
  | _ => none

def lenFact (x : AV) (K : Prop) : Prop :=
  match x with
  | .sl _ rows => rows.length ≤ maxLen → K
  | .sm _ _ n _ => n ≤ maxLen → K
  | _ => K

def aBuiltinK (P : Program) (ev : Operand → AV) (b : Builtin) (args : List Operand) (ts : List TypeId) (K : AV → Prop) : Prop :=
  match aBuiltin P ev b args ts with
  | some r => (match b, args with
    | .len, [x] => lenFact (ev x) (K r)
    | _, _ => K r)
  | none => False

/-- is this a test whether a slice is nil? (true: whether it isn't) -/
def isNilTest (op : BinOp) (y : Operand) : Option Bool :=
  match op, y with
  | .eql, .const (.slice none 0 0) => some false
  | .neq, .const (.slice none 0 0) => some true
  | _, _ => none

/-- where a state is described -/
def At (B : Nat) (F : Nat → Prop) (w0 : World) (I0 : Imm) (N : Nat) (K : ASt → Prop) (a : Act) (w : World) : Prop :=
  ∃ s G, K s ∧ Rel B F w0 I0 s G a w ∧ a.tmps.size = N

/-- an operation that is told by what it does to Go's own states: its rules are shown one by one, in texts of their own -/
def semK (P : Program) (o : Oper) (s : ASt) (K : ASt → Prop) : Prop :=
  ∀ (B : Nat) (F : Nat → Prop) (w0 : World) (I0 : Imm) (G : Ghost) (a : Act) (w : World) (Q : Exit → Act → World → Prop), Rel B F w0 I0 s G a w → o.wp P a w (At B F w0 I0 a.tmps.size K) Q
theorem semK.mono {P : Program} {o : Oper} {s : ASt} {K K' : ASt → Prop} (h : ∀ s, K s → K' s) (hh : semK P o s K) : semK P o s K' := fun B F w0 I0 G a w Q r =>
  Oper.wp_mono (fun a' w' ⟨s', G', hk, r', hn⟩ => ⟨s', G', h _ hk, r', hn⟩) (hh B F w0 I0 G a w Q r)

/-- what is handed to a call, a nil slice as such -/
def argN (s : ASt) : Operand → AV
  | .const (.slice none 0 0) => .mn
  | x => dead1 (s.ev x)

def aop (P : Program) (ops : List Oper) (o : Oper) (s : ASt) (K : ASt → Prop) : Prop :=
  match o.op with
  | .assign (.tmp t) => K ((s.kill t).put o.dst (s.t t))
  | .assign x => K (s.put o.dst (s.ev x))
  | .move (.tmp t) => if feeds ops o.dst = true then K ((s.kill t).put o.dst (s.t t)) else K (s.put o.dst (dead1 (s.t t)))
  | .move x => K (s.put o.dst (s.ev x))
  | .load t x => match (if feeds ops o.dst = true then aloadOwn P s t (s.ev x) else none) with
    | some q => K ((s.killAt (.cell q.1 q.2.1)).put o.dst q.2.2)
    | none => match aload P s.h t (s.ev x) with
      | some r => K (s.put o.dst r)
      | none => False
  | .alloc e => match zT P e with
    | some z => ∀ b, s.h b = none → K ({ s with h := upd s.h b (some (z.map nl)) }.put o.dst (.ptr b 0))
    | none => False
  | .box e x => match aCellsK (s.ev x) with
    | some cs => ∀ b, s.h b = none → K ({ s with h := upd s.h b (some cs) }.put o.dst (.ptr b 0))
    | none => False
  | .binOp op t x y yt => match isNilTest op y, s.ev x with
    | some neg, .sl _ rows => (slT P t).isSome = true ∧ ∀ b : Bool, (b = true → rows = []) → K (s.put o.dst (.v (.bool (neg != b))))
    | _, _ => match aval P s.ev s.h (.binOp op t x y yt) with
      | some r => K (s.put o.dst r)
      | none => False
  | .store t x y => match s.ev x, vT P t with
    | .ptr b off, some n => match s.h b, aCellsK (s.ev y) with
      | some cells, some cs => o.dst = none ∧ cs.length = n.1 ∧ off + cs.length ≤ cells.length ∧
        (match y, s.ev y with
        | .tmp ty, .sl tag rows => K { s.kill ty with h := upd s.h b (some (overlay cells off [.sl tag rows])) }
        | _, _ => K { s with h := upd s.h b (some (overlay cells off cs)) })
      | _, _ => False
    | _, _ => False
  | .call c => match c.callee with
    | .value f => match s.ev f with
      | .fn g cap => ACall P g ((c.args.toList.map fun x => dead1 (s.ev x)) ++ cap) s o.dst K ∨ ACall P g (c.args.toList.map (argN s) ++ cap) s o.dst K
      | _ => False
    | .builtin .append => match c.args.toList, c.argTypes.toList with
      | [.tmp tx, y], [t, t'] => if t' = t then (match s.t tx, s.ev y, slT P t with
        | .sl tag rows, .sl _ rows2, some e => (t' = t ∧ appOK tag e.1 e.2.1 ∧ 0 < e.2.1 ∧ 0 < e.2.2 ∧ (zT P e.1).map List.length = some e.2.1) ∧
            (∀ r ∈ rows, r.length = e.2.1) ∧ (∀ r ∈ rows2, r.length = e.2.1) ∧ (rows.length + rows2.length) * e.2.2 ≤ 140737488355328 ∧
            K ((s.kill tx).put o.dst (.sl (appTag tag e.1 e.2.1 rows2) (rows ++ rows2)))
        | .sm b off n c, .sl _ rows2, some e => (t' = t ∧ off = 0 ∧ 0 < e.2.1 ∧ 0 < e.2.2 ∧ (zT P e.1).map List.length = some e.2.1) ∧
            (∀ r ∈ rows2, r.length = e.2.1) ∧ (n + rows2.length) * e.2.2 ≤ 140737488355328 ∧
            (match s.h b with | some cells => cells.length = c * e.2.1 ∧ growSm s o.dst K b n e.2.1 cells rows2 | none => False)
        | .mn, .sl _ rows2, some e => (t' = t ∧ 0 < e.2.1 ∧ 0 < e.2.2 ∧ (zT P e.1).map List.length = some e.2.1) ∧
            (∀ r ∈ rows2, r.length = e.2.1) ∧ rows2.length * e.2.2 ≤ 140737488355328 ∧ growMn s o.dst K e.2.1 rows2
        | _, _, _ => False) else semK P o s K
      | _, _ => False
    | .builtin .clear => semK P o s K
    | .builtin .cap => semK P o s K
    | .builtin .copy => match c.args.toList, c.argTypes.toList with
      | [x, y], [t, _] => match s.ev x, s.ev y, slT P t with
        | .sm b off n _, .sl _ rows2, some e => (∀ r ∈ rows2, r.length = e.2.1) ∧ (match s.h b with
            | some cells => off + n * e.2.1 ≤ cells.length ∧ K ({ s with h := upd s.h b (some (overlay cells off ((rows2.take n).flatten.map dead1))) }.put o.dst (.v (.int .i64 (min rows2.length n : Nat))))
            | none => False)
        | .sm b off n _, .sm b2 off2 n2 _, some e => (match s.h b, s.h b2 with
            | some cells, some cells2 => off + n * e.2.1 ≤ cells.length ∧ off2 + n2 * e.2.1 ≤ cells2.length ∧ (∀ x ∈ (cells2.drop off2).take (min n2 n * e.2.1), cellAV x = true) ∧
                K ({ s with h := upd s.h b (some (overlay cells off (((cells2.drop off2).take (min n2 n * e.2.1)).map dead1))) }.put o.dst (.v (.int .i64 (min n2 n : Nat))))
            | _, _ => False)
        | .sm b off n _, .mn, some e => (match s.h b with
            | some cells => off + n * e.2.1 ≤ cells.length ∧ K ({ s with h := upd s.h b (some (overlay cells off [])) }.put o.dst (.v (.int .i64 0)))
            | none => False)
        | _, _, _ => False
      | _, _ => False
    | .builtin b => aBuiltinK P s.ev b c.args.toList c.argTypes.toList fun r => K (s.put o.dst r)
    | _ => False
  | .makeSlice t l c => match s.ev l, s.ev c, slT P t with
    | .v (.int _ n), .v (.int _ m), some e => match zT P e.1 with
      | some z => (m = n ∧ 0 ≤ n ∧ z.length = e.2.1 ∧ e.2.2 * n.toNat ≤ 140737488355328 ∧ n.toNat ≤ maxLen) ∧
          ∀ b, s.h b = none → K ({ s with h := upd s.h b (some (List.replicate n.toNat (z.map nl)).flatten) }.put o.dst (.sm b 0 n.toNat n.toNat))
      | none => False
    | _, _, _ => False
  | .build t ps => match (if stored ops o.dst = true then abuildN P t (ps.toList.map fun p => (p.1, s.ev p.2)) else abuild P t (ps.toList.map fun p => (p.1, s.ev p.2))) with
    | some r => K (s.put o.dst r)
    | none => False
  | .buildSlice t n ps => match aval P s.ev s.h (.buildSlice t n ps) with
    | some r => if asgd ops o.dst = true then bsP (slT P t) r s o.dst K else K (s.put o.dst r)
    | none => False
  | .makeMap .. => semK P o s K
  | .lookup .. => semK P o s K
  | .mapUpdate .. => semK P o s K
  | .mapEntry .. => semK P o s K
  | .entryStore .. => semK P o s K
  | .range .. => semK P o s K
  | .next .. => semK P o s K
  | .entry .. => semK P o s K
  | op => match aval P s.ev s.h op with
    | some r => K (s.put o.dst r)
    | none => False

/-- is the operation carried out at all? -/
def awanted (ops : List Oper) (s : ASt) (o : Oper) : Bool :=
  match o.guard with
  | none => true
  | some (j, want) => match (ops[j]?).bind (·.dst) with
    | none => false
    | some d => match s.t d with
      | .v (.bool b) => b == want
      | _ => false

def aops (P : Program) (ops : List Oper) : List Oper → ASt → (ASt → Prop) → Prop
  | [], s, K => K s
  | o :: rest, s, K => if awanted ops s o = true then aop P ops o s (fun s' => aops P ops rest s' K) else aops P ops rest (s.put o.dst (.v undef)) K

section
variable {P : Program} {B : Nat} {F : Nat → Prop} {w0 : World} {I0 : Imm} {s : ASt} {G : Ghost} {a : Act} {w : World}

theorem awanted_eq (r : Rel B F w0 I0 s G a w) (ops : Array Oper) (o : Oper) : Region.wanted o (yielded ops a.tmps) = awanted ops.toList s o := by
  unfold Region.wanted awanted
  cases o.guard with
  | none => rfl
  | some gw =>
    obtain ⟨j, want⟩ := gw
    simp only [yielded, Array.getElem?_toList]
    cases hd : (ops[j]?).bind (·.dst) with
    | none => simp
    | some d =>
      simp only [Option.bind_some]
      have hrep := (r.tmps d).1
      have hg : a.tmps.getD d undef = (a.tmps[d]?).getD undef := Array.getD_eq_getD_getElem? ..
      rw [hg] at hrep
      cases ht : a.tmps[d]? with
      | none =>
        rw [ht] at hrep
        simp only [Option.getD_none] at hrep
        generalize s.t d = x at hrep
        cases x with
        | v y => cases hrep; simp [undef]
        | _ => simp
      | some y =>
        rw [ht] at hrep
        simp only [Option.getD_some] at hrep
        generalize s.t d = x at hrep
        cases hrep <;> first
          | rfl
          | (cases y <;> rfl)
          | (cases y <;> simp; done)
          | (rename_i m _ _; cases m <;> simp [obW])

theorem LiveOK.of_still {x : AV} {y : Value} (h : Still x y) {G : Ghost} {w : World} {p : Own} : LiveOK G w p x y := h G w p

theorem Oper.wp_value {o : Oper} {a : Act} {w w' : World} {v : Value} {K : Act → World → Prop} {Q : Exit → Act → World → Prop}
    (h : (execOp a.eval o).run P w = .ok (.value v) w') (hk : K (a.put o.dst v) w') : o.wp P a w K Q := by
  unfold Oper.wp; rw [h]; exact hk

theorem put_size (a : Act) (d : Option Tmp) (v : Value) : (a.put d v).tmps.size = a.tmps.size := by
  cases d <;> simp [Act.put]

theorem still_put (r : Rel B F w0 I0 s G a w) {o : Oper} {x : AV} {v : Value} {w' : World} {I' : Imm} (he : Ext w G.imm w' I') (hrep : Rep I' x v) (hst : Still x v) :
    Rel B F w0 I0 (s.put o.dst x) { G with imm := I' } (a.put o.dst v) w' :=
  (r.ext he).put o.dst x v hrep fun _ _ => hst _ _ _

theorem aval_step {ops : List Oper} {o : Oper} {K : ASt → Prop} {Q : Exit → Act → World → Prop} {x : AV} (r : Rel B F w0 I0 s G a w)
    (ha : aval P s.ev s.h o.op = some x) (hk : K (s.put o.dst x)) : o.wp P a w (At B F w0 I0 a.tmps.size K) Q := by
  obtain ⟨v, w', I', hrun, hext, hrep, hst⟩ := aval_sound (P := P) (ρ := a.eval) r.hrel (fun y _ => r.ev y) ha
  exact Oper.wp_value hrun ⟨_, _, hk, still_put r hext hrep hst, put_size _ _ _⟩

end
end Go.Rw
