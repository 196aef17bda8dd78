/- Parts of the proof: what is used by the law. No condition. -/
import Derived.Test.YtjbbfiagijjdoaaGreatRwS
set_option linter.unusedSimpArgs false
set_option linter.unusedVariables false
/- Laws by which 'simp' walks: one operation after the other. What comes later stands in an instance argument, where simp does not look. No condition. -/
set_option linter.unusedSimpArgs false
set_option linter.unusedVariables false
namespace Go.Rw

/-- what comes later -/
class Kon (α : Type) where
  k : α → Prop
/-- what is not to be looked at -/
class Hid (α : Type) where
  v : α

/-- the value first, then what follows -/
def force (v : AV) [c : Kon AV] : Prop := c.k v
theorem force_eq (v : AV) (k : AV → Prop) : @force v ⟨k⟩ = k v := rfl

def forceO (v : Option AV) [c : Kon AV] : Prop := match v with | some v => c.k v | none => False
theorem forceO_some (v : AV) (k : AV → Prop) : @forceO (some v) ⟨k⟩ = k v := rfl
theorem forceO_none [c : Kon AV] : forceO none = False := rfl

def forceS (s : ASt) [c : Kon ASt] : Prop := c.k s
theorem forceS_eq (n : Nat) (t : Nat → AV) (h : Nat → Option (List AV)) (k : ASt → Prop) : @forceS ⟨n, t, h⟩ ⟨k⟩ = k ⟨n, t, h⟩ := rfl

def forceB (b : Bool) [c : Kon Bool] : Prop := c.k b
theorem forceB_true (k : Bool → Prop) : @forceB true ⟨k⟩ = k true := rfl
theorem forceB_false (k : Bool → Prop) : @forceB false ⟨k⟩ = k false := rfl

def forceL (v : Option (List AV)) [c : Kon (List AV)] : Prop := match v with | some v => c.k v | none => False
theorem forceL_some (v : List AV) (k : List AV → Prop) : @forceL (some v) ⟨k⟩ = k v := rfl

/-- a branch: only the test is looked at, till it is known -/
def branch (b : Bool) [p : Hid Prop] [q : Hid Prop] : Prop := if b = true then p.v else q.v
theorem branch_true (p q : Prop) : @branch true ⟨p⟩ ⟨q⟩ = p := by simp [branch]
theorem branch_false (p q : Prop) : @branch false ⟨p⟩ ⟨q⟩ = q := by simp [branch]
theorem branch_not (b : Bool) (p q : Prop) : @branch (!b) ⟨p⟩ ⟨q⟩ = @branch b ⟨q⟩ ⟨p⟩ := by cases b <;> simp [branch]
theorem branch_intro {b : Bool} {p q : Prop} (h1 : b = true → p) (h2 : b = false → q) : @branch b ⟨p⟩ ⟨q⟩ := by
  cases b
  · rw [branch_false]; exact h2 rfl
  · rw [branch_true]; exact h1 rfl
theorem branch_dec {c : Prop} {i : Decidable c} {p q : Prop} (h1 : c → p) (h2 : ¬ c → q) : @branch (@decide c i) ⟨p⟩ ⟨q⟩ :=
  branch_intro (fun h => h1 (of_decide_eq_true h)) (fun h => h2 (of_decide_eq_false h))

/-- a slice is never longer than a machine allows -/
def lenK (n : Nat) [p : Hid Prop] : Prop := n ≤ maxLen → p.v
theorem lenK_eq (n : Nat) (p : Prop) : @lenK n ⟨p⟩ = (n ≤ 281474976710656 → p) := rfl

/-- the number -/
def natOf (v : AV) : Nat := match v with | .v (.int _ n) => n.toNat | _ => 0
@[simp] theorem natOf_int (k : IntKind) (n : Int) : natOf (.v (.int k n)) = n.toNat := rfl

/-- is it nil? not known of an empty one -/
def nilK (rows : List (List AV)) [c : Kon Bool] : Prop := ∀ b : Bool, (b = true → rows = []) → c.k b
theorem nilK.intro {rows : List (List AV)} {k : Bool → Prop} (h1 : rows = [] → k true) (h2 : k false) : @nilK rows ⟨k⟩ := by
  intro b hb
  cases b
  · exact h2
  · exact h1 (hb rfl)

/-- a new block: not gone into by itself -/
def allocK (z : List AV) (h : Nat → Option (List AV)) [c : Kon Nat] : Prop := ∀ b, h b = none → c.k b
theorem allocK.intro {z : List AV} {h : Nat → Option (List AV)} {k : Nat → Prop} (hk : ∀ b, h b = none → k b) : @allocK z h ⟨k⟩ := hk

/-- a call: only the arguments are looked at -/
def CallK (P : Program) (g : FuncId) (args : List AV) (s : ASt) (d : Option Tmp) [n : Hid (List AV)] [c : Kon ASt] : Prop := ACall P g args s d c.k ∨ ACall P g n.v s d c.k
/-- the state may be looked at in another way: not gone into by itself -/
def shiftK (s : ASt) [c : Kon ASt] : Prop := Shift s c.k
section
variable {P : Program} {g : FuncId} {args args' : List AV} {s : ASt} {d : Option Tmp} {K : ASt → Prop} {nx : Hid (List AV)}
theorem CallK.of {R : AV → Prop} (h : ASpec P g args R) (hk : ∀ r, R r → @force r ⟨fun r => K (s.put d r)⟩) : @CallK P g args s d nx ⟨K⟩ := .inl (.inl ⟨R, h, fun r hr => .inl (Shift.refl (hk r hr))⟩)
theorem CallK.eq {x : AV} (h : ASpec P g args (· = x)) (hk : @force x ⟨fun r => K (s.put d r)⟩) : @CallK P g args s d nx ⟨K⟩ := .of h fun r hr => by rw [hr]; exact hk
theorem CallK.with {x : AV} (h : ASpec P g args' (· = x)) (ha : args = args') (hk : @force x ⟨fun r => K (s.put d r)⟩) : @CallK P g args s d nx ⟨K⟩ := by subst ha; exact .eq h hk
theorem CallK.via {R : AV → Prop} (h : ASpec P g args' R) (ha : args = args') (hk : ∀ r, R r → @force r ⟨fun r => K (s.put d r)⟩) : @CallK P g args s d nx ⟨K⟩ := by subst ha; exact .of h hk
theorem CallK.m {h : Nat → Option (List AV)} {R : AV → (Nat → Option (List AV)) → Prop} (hm : MSpec P g args h R) (hs : SubH h s.h) (hk : ∀ r h', R r h' → @force r ⟨fun r => K ({ s with h := mergeH s.h h h' }.put d r)⟩) : @CallK P g args s d nx ⟨K⟩ :=
  .inl (.inr (.inl ⟨h, R, hs, hm, fun r h' hr _ => Shift.refl (hk r h' hr)⟩))
/-- the same, where it is said which objects are new -/
theorem CallK.mf {h : Nat → Option (List AV)} {R : AV → (Nat → Option (List AV)) → Prop} (hm : MSpec P g args' h R) (ha : args = args') (hs : SubH h s.h) (hk : ∀ r h', R r h' → (∀ b c, h' b = some c → h b = none → s.h b = none) → @force r ⟨fun r => K ({ s with h := mergeH s.h h h' }.put d r)⟩) : @CallK P g args s d nx ⟨K⟩ := by
  subst ha
  exact .inl (.inr (.inl ⟨h, R, hs, hm, fun r h' hr hf => Shift.refl (hk r h' hr hf)⟩))
theorem CallK.mshift {h : Nat → Option (List AV)} {R : AV → (Nat → Option (List AV)) → Prop} (hm : MSpec P g args h R) (hs : SubH h s.h) (hk : ∀ r h', R r h' → @shiftK ({ s with h := mergeH s.h h h' }.put d r) ⟨K⟩) : @CallK P g args s d nx ⟨K⟩ :=
  .inl (.inr (.inl ⟨h, R, hs, hm, fun r h' hr _ => hk r h' hr⟩))
/-- new memory is taken as one's own to write -/
theorem CallK.thaw {R : AV → Prop} (h : ASpec P g args' R) (ha : args = args') (hk : ∀ r, R r → @force r ⟨fun r => K (s.put d r)⟩ ∨ ∃ e sz pu rows, r = .sl (.live e sz pu) rows ∧ rows ≠ [] ∧ (pu = true ∨ ∀ r ∈ rows, ∀ x ∈ r, flat0 x = true) ∧
    ∀ (b cap : Nat) (spare : List Value), s.h b = none → rows.length ≤ cap → spare.length + rows.length * sz = cap * sz →
      @forceL (some (rows.flatten.map dead1 ++ spare.map AV.v)) ⟨fun z => K ({ s with h := upd s.h b (some z) }.put d (.sm b 0 rows.length cap))⟩) : @CallK P g args s d nx ⟨K⟩ := by
  subst ha
  refine .inl (.inl ⟨R, h, fun r hr => ?_⟩)
  rcases hk r hr with h1 | ⟨e, sz, pu, rows, q1, q2, q3, q4⟩
  · exact .inl (Shift.refl h1)
  · exact .inr ⟨e, sz, pu, rows, q1, q2, q3, q4⟩
/-- one's own memory is lent for the call -/
theorem CallK.lend {R : AV → Prop} {sz : Nat} (b : Nat) (cells : List AV) (rows : List (List AV)) (hb : s.h b = some cells) (hc : chunks cells rows sz) (h : ASpec P g args' R) (ha : args.map (frz2 b rows) = args') (hf : ∀ r, R r → flat2 r = true)
    (hk : ∀ r, R r → @force r ⟨fun r => K (s.put d r)⟩) : @CallK P g args s d nx ⟨K⟩ := by
  subst ha
  exact .inl (.inr (.inr ⟨b, cells, rows, sz, R, hb, hc, h, fun r hr => ⟨hf r hr, Shift.refl (hk r hr)⟩⟩))
/-- a call to which a nil slice is handed as such -/
theorem CallK.known (ha : nx.v = args') (h : @CallK P g args' s d ⟨args'⟩ ⟨K⟩) : @CallK P g args s d nx ⟨K⟩ := by
  subst ha
  rcases h with h | h
  · exact .inr h
  · exact .inr h
theorem one_apply (b k : Nat) (c : List AV) : one b c k = if k = b then some c else none := rfl
theorem merge_one (H : Nat → Option (List AV)) (b : Nat) (c c' : List AV) : mergeH H (one b c) (one b c') = upd H b (some c') := by
  funext k
  simp only [mergeH, one, upd]
  by_cases hk : k = b
  · simp [hk]
  · simp [hk]
/-- a call that writes one object -/
theorem CallK.one {b : Nat} {c c' : List AV} {x : AV} (hm : MSpec P g args' (one b c) (fun r h' => r = x ∧ h' = Rw.one b c')) (ha : args = args') (hs : WeakO c (s.h b))
    (hk : @force x ⟨fun r => @forceL (some c') ⟨fun c' => K ({ s with h := upd s.h b (some c') }.put d r)⟩⟩) : @CallK P g args s d nx ⟨K⟩ := by
  subst ha
  exact .m hm (SubH_one.2 hs) fun r h' ⟨h1, h2⟩ => by subst h1; subst h2; rw [merge_one]; exact hk
theorem CallK.oneOf {b : Nat} {c : List AV} {R : AV → List AV → Prop} (hm : MSpec P g args' (Rw.one b c) (fun r h' => ∃ c', R r c' ∧ h' = Rw.one b c')) (ha : args = args') (hs : WeakO c (s.h b))
    (hk : ∀ r c', R r c' → @force r ⟨fun r => @forceL (some c') ⟨fun c' => K ({ s with h := upd s.h b (some c') }.put d r)⟩⟩) : @CallK P g args s d nx ⟨K⟩ := by
  subst ha
  exact .m hm (SubH_one.2 hs) fun r h' ⟨c', h1, h2⟩ => by subst h2; rw [merge_one]; exact hk r c' h1
end
/-- the same in a region that draws its order -/
def CallQ (P : Program) (g : FuncId) (args : List AV) [c : Kon AV] : Prop := ∃ x, ASpec P g args (fun r => dead1 r = x) ∧ c.k x
theorem CallQ.eq {P : Program} {g : FuncId} {args : List AV} {K : AV → Prop} {x : AV} (h : ASpec P g args (· = x)) (hk : K (dead1 x)) : @CallQ P g args ⟨K⟩ := ⟨_, h.mono fun r hr => by rw [hr], hk⟩
theorem CallQ.with {P : Program} {g : FuncId} {args args' : List AV} {K : AV → Prop} {x : AV} (h : ASpec P g args' (· = x)) (ha : args = args') (hk : K (dead1 x)) : @CallQ P g args ⟨K⟩ := ⟨_, ha ▸ h.mono fun r hr => by rw [hr], hk⟩
theorem CallQ.of {P : Program} {g : FuncId} {args : List AV} {K R : AV → Prop} {x : AV} (h : ASpec P g args R) (hr : ∀ r, R r → dead1 r = x) (hk : K x) : @CallQ P g args ⟨K⟩ := ⟨_, h.mono hr, hk⟩

/-! ### the way on -/
def seqQ (P : Program) (y : Code) (Q : AExit → ASt → Prop) : AExit → ASt → Prop := fun e s => match e with | .normal => awp P y Q s | e => Q e s
def blockQ (id : Nat) (Q : AExit → ASt → Prop) : AExit → ASt → Prop := fun e s => match e with | .exit id' => if id' = id then Q .normal s else Q (.exit id') s | e => Q e s
/-- behind a loop's round -/
def roundQ (Inv : (Nat → AV) → (Nat → Option (List AV)) → Prop) (μ : (Nat → AV) → Nat) (m : Nat) (Q : AExit → ASt → Prop) : AExit → ASt → Prop := fun e s => match e with | .normal => Inv s.t s.h ∧ μ s.t < m | e => Q e s
/-- behind the first part of a cut -/
def cutQ (M : (Nat → AV) → (Nat → Option (List AV)) → Prop) (n : Nat) (Q : AExit → ASt → Prop) : AExit → ASt → Prop := fun e s => match e with | .normal => M s.t s.h ∧ s.n = n | e => Q e s

def loopK (P : Program) (s : ASt) [c : Hid Code] [Q : Hid (AExit → ASt → Prop)] : Prop := awp P (.loop c.v) Q.v s
/-- are we through? what is asked of exits is looked at, the state first -/
def exitK (s : ASt) [c : Kon ASt] : Prop := c.k s
theorem shiftK.skip {s : ASt} {K : ASt → Prop} (h : @exitK s ⟨K⟩) : @shiftK s ⟨K⟩ := Shift.refl h
theorem exitK_eq (n : Nat) (t : Nat → AV) (h : Nat → Option (List AV)) (k : ASt → Prop) : @exitK ⟨n, t, h⟩ ⟨k⟩ = k ⟨n, t, h⟩ := rfl

section
variable {P : Program} {Q : AExit → ASt → Prop} {s : ASt}
theorem seqQ_normal (y : Code) : seqQ P y Q .normal s = awp P y Q s := rfl
theorem seqQ_ret (y : Code) : seqQ P y Q .ret s = Q .ret s := rfl
theorem seqQ_exit (y : Code) (id : Nat) : seqQ P y Q (.exit id) s = Q (.exit id) s := rfl
theorem blockQ_normal (id : Nat) : blockQ id Q .normal s = Q .normal s := rfl
theorem blockQ_ret (id : Nat) : blockQ id Q .ret s = Q .ret s := rfl
theorem blockQ_exit (id id' : Nat) : blockQ id Q (.exit id') s = @branch (decide (id' = id)) ⟨Q .normal s⟩ ⟨Q (.exit id') s⟩ := by
  simp only [blockQ, branch, decide_eq_true_eq]
theorem roundQ_normal (Inv : (Nat → AV) → (Nat → Option (List AV)) → Prop) (μ : (Nat → AV) → Nat) (m : Nat) : roundQ Inv μ m Q .normal s = @exitK s ⟨fun s => Inv s.t s.h ∧ μ s.t < m⟩ := rfl
theorem roundQ_ret (Inv : (Nat → AV) → (Nat → Option (List AV)) → Prop) (μ : (Nat → AV) → Nat) (m : Nat) : roundQ Inv μ m Q .ret s = Q .ret s := rfl
theorem roundQ_exit (Inv : (Nat → AV) → (Nat → Option (List AV)) → Prop) (μ : (Nat → AV) → Nat) (m : Nat) (id : Nat) : roundQ Inv μ m Q (.exit id) s = Q (.exit id) s := rfl
variable {M : (Nat → AV) → (Nat → Option (List AV)) → Prop} {n : Nat}
theorem cutQ_normal : cutQ M n Q .normal s = @exitK s ⟨fun s => M s.t s.h ∧ s.n = n⟩ := rfl
theorem cutQ_ret : cutQ M n Q .ret s = Q .ret s := rfl
theorem cutQ_exit (id : Nat) : cutQ M n Q (.exit id) s = Q (.exit id) s := rfl
theorem endQS_normal (rs : List ResultVar) (R : AV → Prop) : endQS P rs R .normal s = @shiftK s ⟨fun s => ARes P rs s R⟩ := rfl
theorem endQS_ret (rs : List ResultVar) (R : AV → Prop) : endQS P rs R .ret s = @shiftK s ⟨fun s => ARes P rs s R⟩ := rfl
theorem endHS_normal (rs : List ResultVar) (R : AV → (Nat → Option (List AV)) → Prop) : endHS P rs R .normal s = @shiftK s ⟨fun s => ARes P rs s (fun x => ∃ h', SubH h' s.h ∧ R x h')⟩ := rfl
theorem endHS_ret (rs : List ResultVar) (R : AV → (Nat → Option (List AV)) → Prop) : endHS P rs R .ret s = @shiftK s ⟨fun s => ARes P rs s (fun x => ∃ h', SubH h' s.h ∧ R x h')⟩ := rfl
theorem endQ_normal (rs : List ResultVar) (R : AV → Prop) : endQ P rs R .normal s = @exitK s ⟨fun s => ARes P rs s R⟩ := rfl
theorem endQ_ret (rs : List ResultVar) (R : AV → Prop) : endQ P rs R .ret s = @exitK s ⟨fun s => ARes P rs s R⟩ := rfl

theorem endH_normal (rs : List ResultVar) (R : AV → (Nat → Option (List AV)) → Prop) : endH P rs R .normal s = @exitK s ⟨fun s => ARes P rs s (fun x => ∃ h', SubH h' s.h ∧ R x h')⟩ := rfl
theorem endH_ret (rs : List ResultVar) (R : AV → (Nat → Option (List AV)) → Prop) : endH P rs R .ret s = @exitK s ⟨fun s => ARes P rs s (fun x => ∃ h', SubH h' s.h ∧ R x h')⟩ := rfl

theorem awp_seqQ (x y : Code) : awp P (.seq x y) Q s = awp P x (seqQ P y Q) s := rfl
theorem awp_blockQ (id : Nat) (c : Code) : awp P (.block id c) Q s = awp P c (blockQ id Q) s := rfl
theorem awp_loopK (c : Code) : awp P (.loop c) Q s = @loopK P s ⟨c⟩ ⟨Q⟩ := rfl

theorem loopK.intro {c : Code} {n : Nat} {t : Nat → AV} {h : Nat → Option (List AV)} (Inv : (Nat → AV) → (Nat → Option (List AV)) → Prop) (μ : (Nat → AV) → Nat) (h0 : Inv t h)
    (hr : ∀ t h, Inv t h → awp P c (roundQ Inv μ (μ t) Q) ⟨n, t, h⟩) : @loopK P ⟨n, t, h⟩ ⟨c⟩ ⟨Q⟩ :=
  awp_loop (fun s => Inv s.t s.h) (fun s => μ s.t) (Shift.refl h0) fun s' hn hi => by
    obtain ⟨n', t', h'⟩ := s'
    obtain rfl : n' = n := hn
    exact hr t' h' hi

theorem cutQ_use {y : Code} (hy : ∀ t h, M t h → awp P y Q ⟨n, t, h⟩) : ∀ e s, cutQ M n Q e s → seqQ P y Q e s := fun e s' hi => by
  cases e with
  | normal =>
    obtain ⟨n', t', h'⟩ := s'
    obtain rfl : n' = n := hi.2
    exact hy t' h' hi.1
  | exit id => exact hi
  | ret => exact hi
theorem blockQ_mono {id : Nat} {Q Q' : AExit → ASt → Prop} (h : ∀ e s, Q e s → Q' e s) : ∀ e s, blockQ id Q e s → blockQ id Q' e s := fun e s hi => by
  cases e with
  | normal => exact h _ _ hi
  | ret => exact h _ _ hi
  | exit id' =>
    simp only [blockQ] at *
    split at hi
    · rename_i hq; rw [if_pos hq]; exact h _ _ hi
    · rename_i hq; rw [if_neg hq]; exact h _ _ hi
/-- what holds behind the first part, whichever way it went -/
theorem awp_cutK {x y : Code} {t : Nat → AV} {h : Nat → Option (List AV)} (M : (Nat → AV) → (Nat → Option (List AV)) → Prop) (hx : awp P x (cutQ M n Q) ⟨n, t, h⟩)
    (hy : ∀ t h, M t h → awp P y Q ⟨n, t, h⟩) : awp P (.seq x y) Q ⟨n, t, h⟩ :=
  awp_mono x (cutQ_use hy) hx
theorem branch_join {b : Bool} {x x' y : Code} {t : Nat → AV} {h : Nat → Option (List AV)} (M : (Nat → AV) → (Nat → Option (List AV)) → Prop) (h1 : b = true → awp P x (cutQ M n Q) ⟨n, t, h⟩) (h2 : b = false → awp P x' (cutQ M n Q) ⟨n, t, h⟩)
    (hy : ∀ t h, M t h → awp P y Q ⟨n, t, h⟩) : @branch b ⟨awp P x (seqQ P y Q) ⟨n, t, h⟩⟩ ⟨awp P x' (seqQ P y Q) ⟨n, t, h⟩⟩ :=
  branch_intro (fun hb => awp_mono x (cutQ_use hy) (h1 hb)) (fun hb => awp_mono x' (cutQ_use hy) (h2 hb))
theorem loopK.shift {c : Code} {n : Nat} {t : Nat → AV} {h : Nat → Option (List AV)} (Inv : (Nat → AV) → (Nat → Option (List AV)) → Prop) (μ : (Nat → AV) → Nat) (h0 : @shiftK ⟨n, t, h⟩ ⟨fun s => Inv s.t s.h⟩)
    (hr : ∀ t h, Inv t h → awp P c (roundQ Inv μ (μ t) Q) ⟨n, t, h⟩) : @loopK P ⟨n, t, h⟩ ⟨c⟩ ⟨Q⟩ :=
  awp_loop (fun s => Inv s.t s.h) (fun s => μ s.t) h0 fun s' hn hi => by
    obtain ⟨n', t', h'⟩ := s'
    obtain rfl : n' = n := hn
    exact hr t' h' hi
/-- a loop, and what holds behind it -/
theorem loopK.post {c y : Code} {id : Nat} {t : Nat → AV} {h : Nat → Option (List AV)} (Inv : (Nat → AV) → (Nat → Option (List AV)) → Prop) (μ : (Nat → AV) → Nat) (M : (Nat → AV) → (Nat → Option (List AV)) → Prop) (h0 : Inv t h)
    (hr : ∀ t h, Inv t h → awp P c (roundQ Inv μ (μ t) (blockQ id (cutQ M n Q))) ⟨n, t, h⟩) (hy : ∀ t h, M t h → awp P y Q ⟨n, t, h⟩) : @loopK P ⟨n, t, h⟩ ⟨c⟩ ⟨blockQ id (seqQ P y Q)⟩ :=
  awp_mono (.loop c) (blockQ_mono (cutQ_use hy)) (loopK.intro Inv μ h0 hr)
end

/-! ### states -/
theorem put_mk (n : Nat) (t : Nat → AV) (h : Nat → Option (List AV)) (d : Nat) (x : AV) : ASt.put ⟨n, t, h⟩ (some d) x = if d < n then ⟨n, upd t d x, h⟩ else ⟨n, t, h⟩ := rfl
theorem put_none (s : ASt) (x : AV) : ASt.put s none x = s := rfl
theorem set_mk (n : Nat) (t : Nat → AV) (h : Nat → Option (List AV)) (d : Nat) (x : AV) : ASt.set ⟨n, t, h⟩ d x = if d < n then ⟨n, upd t d x, h⟩ else ⟨n, t, h⟩ := rfl
theorem ev_tmp (s : ASt) (t : Nat) : s.ev (.tmp t) = s.t t := rfl
theorem ev_const (s : ASt) (c : Value) : s.ev (.const c) = c2a c := rfl
theorem ev_func (s : ASt) (f : FuncId) : s.ev (.func f) = .fn f [] := rfl
theorem evd_eq (s : ASt) (x : Operand) : s.evd x = dead1 (s.ev x) := rfl
theorem c2a_int (k : IntKind) (n : Int) : c2a (.int k n) = .v (.int k n) := rfl
theorem c2a_bool (b : Bool) : c2a (.bool b) = .v (.bool b) := rfl
theorem c2a_float (k : FloatKind) (n : Nat) : c2a (.float k n) = .v (.float k n) := rfl
theorem c2a_string (s : ByteArray) : c2a (.string s) = .v (.string s) := rfl
theorem c2a_nil : c2a (.slice none 0 0) = .sl .nil [] := rfl
theorem c2a_pointer (p : Option Addr) : c2a (.pointer p) = .v (.pointer p) := rfl
theorem c2a_nilFunc : c2a .nilFunc = .v .nilFunc := rfl

/-- the slot, once its value has gone elsewhere -/
def killW (s : ASt) (t : Nat) (v : AV) : ASt := match v with | .sl _ rows => s.set t (.sl .no rows) | .ob m g _ => s.set t (.v (obW m g)) | _ => s
theorem killW_sl (s : ASt) (t : Nat) (tag : Tag) (rows : List (List AV)) : killW s t (.sl tag rows) = s.set t (.sl .no rows) := rfl
theorem killW_v (s : ASt) (t : Nat) (x : Value) : killW s t (.v x) = s := rfl
theorem killW_ea (s : ASt) (t : Nat) (r : List AV) (o : Nat) : killW s t (.ea r o) = s := rfl
theorem killW_ptr (s : ASt) (t : Nat) (b o : Nat) : killW s t (.ptr b o) = s := rfl
theorem killW_agg (s : ASt) (t : Nat) (c : List AV) : killW s t (.agg c) = s := rfl
theorem killW_tup (s : ASt) (t : Nat) (c : List AV) : killW s t (.tup c) = s := rfl
theorem killW_fn (s : ASt) (t : Nat) (f : FuncId) (c : List AV) : killW s t (.fn f c) = s := rfl
theorem killW_ob (s : ASt) (t : Nat) (m : Bool) (g : Nat) (o : Obj) : killW s t (.ob m g o) = s.set t (.v (obW m g)) := rfl
theorem killW_mn (s : ASt) (t : Nat) : killW s t .mn = s := rfl
theorem killW_sm (s : ASt) (t : Nat) (b o n c : Nat) : killW s t (.sm b o n c) = s := rfl

theorem set_self (s : ASt) (t : Nat) : s.set t (s.t t) = s := by
  unfold ASt.set
  split
  · have : upd s.t t (s.t t) = s.t := by funext k; simp only [upd]; split <;> simp_all
    rw [this]
  · rfl

theorem kill_eqW (s : ASt) (t : Nat) : s.kill t = killW s t (s.t t) := by
  unfold ASt.kill killW
  cases h : s.t t with
  | sl tag rows => rfl
  | ob m g o => rfl
  | _ => rw [show dead1 _ = s.t t by rw [h]; rfl]; exact set_self s t

/-- is the slot handed on? (of the operations, none is looked at before its turn) -/
def feeds1 (o : Op) (d : Tmp) : Bool := match o with
    | .call c => (match c.callee with | .builtin .append => true | _ => false) && (match c.args.toList with | .tmp t :: _ => t == d | _ => false)
    | .assign (.tmp t) => t == d
    | .store _ _ (.tmp t) => t == d
    | _ => false
def feedsB (d : Option Tmp) [ops : Hid (List Oper)] [c : Kon Bool] : Prop := c.k (feeds ops.v d)
theorem feedsB_none (c : Kon Bool) (l : List Oper) : @feedsB none ⟨l⟩ c = c.k false := rfl
theorem feedsB_nil (d : Tmp) (k : Bool → Prop) : @feedsB (some d) ⟨[]⟩ ⟨k⟩ = k false := rfl
theorem feedsB_cons (d' : Option Tmp) (op : Op) (ty : TypeId) (pos : String) (after : Array Edge) (g : Option (Nat × Bool)) (l : List Oper) (t : Tmp) (k : Bool → Prop) : @feedsB (some t) ⟨⟨d', op, ty, pos, after, g⟩ :: l⟩ ⟨k⟩ = @branch (feeds1 op t) ⟨k true⟩ ⟨@feedsB (some t) ⟨l⟩ ⟨k⟩⟩ := by
  have : feeds (⟨d', op, ty, pos, after, g⟩ :: l) (some t) = (feeds1 op t || feeds l (some t)) := by
    simp only [feeds, List.any_cons]; rfl
  simp only [feedsB, this, branch]
  cases feeds1 op t <;> simp

/-- is the built value put into memory? -/
def stored1 (o : Op) (d : Tmp) : Bool := match o with
    | .store _ _ (.tmp t) => t == d
    | .box _ (.tmp t) => t == d
    | _ => false
def storedB (d : Option Tmp) [ops : Hid (List Oper)] [c : Kon Bool] : Prop := c.k (stored ops.v d)
theorem storedB_none (c : Kon Bool) (l : List Oper) : @storedB none ⟨l⟩ c = c.k false := rfl
theorem storedB_nil (d : Tmp) (k : Bool → Prop) : @storedB (some d) ⟨[]⟩ ⟨k⟩ = k false := rfl
theorem storedB_cons (d' : Option Tmp) (op : Op) (ty : TypeId) (pos : String) (after : Array Edge) (g : Option (Nat × Bool)) (l : List Oper) (t : Tmp) (k : Bool → Prop) : @storedB (some t) ⟨⟨d', op, ty, pos, after, g⟩ :: l⟩ ⟨k⟩ = @branch (stored1 op t) ⟨k true⟩ ⟨@storedB (some t) ⟨l⟩ ⟨k⟩⟩ := by
  have : stored (⟨d', op, ty, pos, after, g⟩ :: l) (some t) = (stored1 op t || stored l (some t)) := by
    simp only [stored, List.any_cons]; rfl
  simp only [storedB, this, branch]
  cases stored1 op t <;> simp
theorem keepNil_v (x : Value) : keepNil (.v x) = .v x := rfl
theorem keepNil_nil : keepNil (.sl .nil []) = .sl .nil [] := rfl
theorem keepNil_no (r : List (List AV)) : keepNil (.sl .no r) = .sl .no r := rfl
theorem keepNil_full (r : List (List AV)) : keepNil (.sl .full r) = .sl .no r := rfl
theorem keepNil_live (e s : Nat) (p : Bool) (r : List (List AV)) : keepNil (.sl (.live e s p) r) = .sl .no r := rfl
theorem keepNil_ptr (b o : Nat) : keepNil (.ptr b o) = .ptr b o := rfl
theorem keepNil_ea (r : List AV) (o : Nat) : keepNil (.ea r o) = .ea r o := rfl
theorem keepNil_sm (b o n c : Nat) : keepNil (.sm b o n c) = .sm b o n c := rfl
theorem keepNil_mn : keepNil .mn = .mn := rfl
theorem keepNil_fn (f : FuncId) (c : List AV) : keepNil (.fn f c) = .fn f c := rfl

section
variable {P : Program} {ops : List Oper} {s : ASt} {K : ASt → Prop} {d : Option Tmp} {ty : TypeId} {pos : String} {after : Array Edge} {g : Option (Nat × Bool)} {rest : List Oper} {op : Op}

/-- is it wanted? the test's slot is named by its place -/
def wantB (s : ASt) (j : Nat) (want : Bool) [ops : Hid (List Oper)] [p : Hid Prop] [q : Hid Prop] : Prop :=
  if (match (ops.v[j]?).bind (·.dst) with
    | none => false
    | some d => match s.t d with
      | .v (.bool b) => b == want
      | _ => false : Bool) = true then p.v else q.v
theorem wantB_succ (j : Nat) (want : Bool) (o : Oper) (l : List Oper) (p q : Prop) : @wantB s (j + 1) want ⟨o :: l⟩ ⟨p⟩ ⟨q⟩ = @wantB s j want ⟨l⟩ ⟨p⟩ ⟨q⟩ := rfl
theorem wantB_zero (want : Bool) (e : Tmp) (l : List Oper) (p q : Prop) : @wantB s 0 want ⟨⟨some e, op, ty, pos, after, g⟩ :: l⟩ ⟨p⟩ ⟨q⟩ = @force (s.t e) ⟨fun v => match v with
    | .v (.bool b) => @branch (b == want) ⟨p⟩ ⟨q⟩
    | _ => q⟩ := by
  simp only [wantB, force, List.getElem?_cons_zero, Option.bind_some]
  cases s.t e with
  | v z => cases z <;> simp [branch]
  | _ => simp

theorem aops_nil : aops P ops [] s K = K s := rfl
theorem aops_cons : aops P ops (⟨d, op, ty, pos, after, none⟩ :: rest) s K = @forceS s ⟨fun s => aop P ops ⟨d, op, ty, pos, after, none⟩ s (fun s' => aops P ops rest s' K)⟩ := by
  simp [aops, awanted, forceS]
theorem aops_guard (j : Nat) (want : Bool) : aops P ops (⟨d, op, ty, pos, after, some (j, want)⟩ :: rest) s K =
    @forceS s ⟨fun s => @wantB s j want ⟨ops⟩ ⟨aop P ops ⟨d, op, ty, pos, after, some (j, want)⟩ s (fun s' => aops P ops rest s' K)⟩ ⟨aops P ops rest (s.put d (.v undef)) K⟩⟩ := rfl

theorem aop_assign_tmp (t : Tmp) : aop P ops ⟨d, .assign (.tmp t), ty, pos, after, g⟩ s K = @force (s.t t) ⟨fun v => K ((killW s t v).put d v)⟩ := by
  simp only [aop, force]; rw [kill_eqW]
theorem aop_assign_const (c : Value) : aop P ops ⟨d, .assign (.const c), ty, pos, after, g⟩ s K = @force (c2a c) ⟨fun v => K (s.put d v)⟩ := rfl
theorem aop_assign_func (c : FuncId) : aop P ops ⟨d, .assign (.func c), ty, pos, after, g⟩ s K = @force (.fn c []) ⟨fun v => K (s.put d v)⟩ := rfl
theorem aop_move_const (c : Value) : aop P ops ⟨d, .move (.const c), ty, pos, after, g⟩ s K = @force (c2a c) ⟨fun v => K (s.put d v)⟩ := rfl
theorem aop_move_func (c : FuncId) : aop P ops ⟨d, .move (.func c), ty, pos, after, g⟩ s K = @force (.fn c []) ⟨fun v => K (s.put d v)⟩ := rfl

/-- does the right to write go with it? -/
def isMv : AV → Bool
  | .sl _ _ => true
  | .ob _ _ _ => true
  | _ => false
/-- a slot's value goes into another slot -/
def moveK (v : AV) (s : ASt) (t : Tmp) (d : Option Tmp) [ops : Hid (List Oper)] [c : Kon ASt] : Prop := if (isMv v && feeds ops.v d) = true then c.k ((killW s t v).put d v) else c.k (s.put d (dead1 v))
theorem moveK_v (x : Value) (t : Tmp) (k : ASt → Prop) : @moveK (.v x) s t d ⟨ops⟩ ⟨k⟩ = k (s.put d (.v x)) := rfl
theorem moveK_ea (x : List AV) (o : Nat) (t : Tmp) (k : ASt → Prop) : @moveK (.ea x o) s t d ⟨ops⟩ ⟨k⟩ = k (s.put d (.ea x o)) := rfl
theorem moveK_ptr (x : Nat) (o : Nat) (t : Tmp) (k : ASt → Prop) : @moveK (.ptr x o) s t d ⟨ops⟩ ⟨k⟩ = k (s.put d (.ptr x o)) := rfl
theorem moveK_agg (x : List AV) (t : Tmp) (k : ASt → Prop) : @moveK (.agg x) s t d ⟨ops⟩ ⟨k⟩ = k (s.put d (.agg x)) := rfl
theorem moveK_tup (x : List AV) (t : Tmp) (k : ASt → Prop) : @moveK (.tup x) s t d ⟨ops⟩ ⟨k⟩ = k (s.put d (.tup x)) := rfl
theorem moveK_fn (x : FuncId) (o : List AV) (t : Tmp) (k : ASt → Prop) : @moveK (.fn x o) s t d ⟨ops⟩ ⟨k⟩ = k (s.put d (.fn x o)) := rfl
theorem moveK_mn (t : Tmp) (k : ASt → Prop) : @moveK .mn s t d ⟨ops⟩ ⟨k⟩ = k (s.put d .mn) := rfl
theorem moveK_sm (b o n c : Nat) (t : Tmp) (k : ASt → Prop) : @moveK (.sm b o n c) s t d ⟨ops⟩ ⟨k⟩ = k (s.put d (.sm b o n c)) := rfl
theorem moveK_sl (tag : Tag) (rows : List (List AV)) (t : Tmp) (k : ASt → Prop) : @moveK (.sl tag rows) s t d ⟨ops⟩ ⟨k⟩ = @feedsB d ⟨ops⟩ ⟨fun b => match b with | true => k ((s.set t (.sl .no rows)).put d (.sl tag rows)) | false => k (s.put d (.sl .no rows))⟩ := by
  simp only [moveK, isMv, Bool.true_and, feedsB]
  cases feeds ops d <;> rfl
theorem moveK_ob (m : Bool) (g : Nat) (o : Obj) (t : Tmp) (k : ASt → Prop) : @moveK (.ob m g o) s t d ⟨ops⟩ ⟨k⟩ = @feedsB d ⟨ops⟩ ⟨fun b => match b with | true => k ((s.set t (.v (obW m g))).put d (.ob m g o)) | false => k (s.put d (.v (obW m g)))⟩ := by
  simp only [moveK, isMv, Bool.true_and, feedsB]
  cases feeds ops d <;> rfl
theorem aop_move_tmp (t : Tmp) : aop P ops ⟨d, .move (.tmp t), ty, pos, after, g⟩ s K = @force (s.t t) ⟨fun v => @moveK v s t d ⟨ops⟩ ⟨K⟩⟩ := by
  simp only [aop, force, moveK]
  cases hv : s.t t with
  | sl tag rows => simp only [isMv, Bool.true_and]; rw [kill_eqW, hv]
  | ob m g o => simp only [isMv, Bool.true_and]; rw [kill_eqW, hv]
  | _ => simp only [isMv, Bool.false_and, Bool.false_eq_true, if_false]; rw [kill_eqW, hv]; simp [killW]

/-- a field is read out of memory -/
def loadK (n : Nat × Bool) (cells : List AV) (s : ASt) (b off : Nat) (d : Option Tmp) [ops : Hid (List Oper)] [c : Kon ASt] : Prop :=
  match feeds ops.v d, n.2, cells[off]? with
  | true, false, some (.sl tag rows) => c.k ((s.killAt (.cell b off)).put d (.sl tag rows))
  | _, _, _ => @forceO (cellsAt n.1 n.2 cells off) ⟨fun v => c.k (s.put d v)⟩
theorem loadK_agg (n : Nat) (cells : List AV) (b off : Nat) (k : ASt → Prop) : @loadK (n, true) cells s b off d ⟨ops⟩ ⟨k⟩ = @forceO (cellsAt n true cells off) ⟨fun v => k (s.put d v)⟩ := by
  simp only [loadK]
  cases feeds ops d <;> rfl
theorem loadK_one (n : Nat) (cells : List AV) (b off : Nat) (k : ASt → Prop) : @loadK (n, false) cells s b off d ⟨ops⟩ ⟨k⟩ = @forceO cells[off]? ⟨fun v => match v with
    | .sl tag rows => @feedsB d ⟨ops⟩ ⟨fun f => match f with | true => k ((s.killAt (.cell b off)).put d (.sl tag rows)) | false => @forceO (cellsAt n false cells off) ⟨fun v => k (s.put d v)⟩⟩
    | _ => @forceO (cellsAt n false cells off) ⟨fun v => k (s.put d v)⟩⟩ := by
  unfold loadK feedsB
  simp only
  cases hf : feeds ops d with
  | false =>
    cases hc : cells[off]? with
    | none => simp only [forceO, cellsAt, hc]; rfl
    | some y => cases y <;> rfl
  | true =>
    cases hc : cells[off]? with
    | none => simp only [forceO, cellsAt, hc]; rfl
    | some y => cases y <;> rfl

theorem aop_load (t : TypeId) (x : Operand) : aop P ops ⟨d, .load t x, ty, pos, after, g⟩ s K = @force (s.ev x) ⟨fun a => match a with
    | .ea row off => match vT P t with
      | some n => @forceO (cellsAt n.1 n.2 row off) ⟨fun v => K (s.put d v)⟩
      | none => False
    | .ptr b off => match vT P t with
      | some n => @forceL (s.h b) ⟨fun cells => @loadK n cells s b off d ⟨ops⟩ ⟨K⟩⟩
      | none => False
    | _ => False⟩ := by
  simp only [aop, force]
  cases hx : s.ev x with
  | ea row off =>
    have : (if feeds ops d = true then aloadOwn P s t (.ea row off) else none) = none := by
      split
      · unfold aloadOwn; cases vT P t with
        | none => rfl
        | some n => obtain ⟨a, b⟩ := n; cases b <;> rfl
      · rfl
    rw [this]
    simp only [aload]
    cases vT P t with
    | none => rfl
    | some n => rfl
  | ptr b off =>
    simp only [aload]
    cases hv : vT P t with
    | none => simp [aloadOwn, hv]
    | some n =>
      obtain ⟨n1, n2⟩ := n
      cases hh : s.h b with
      | none => cases n2 <;> simp [aloadOwn, hv, hh, forceL]
      | some cells =>
        simp only [forceL, loadK]
        cases hf : feeds ops d with
        | false => simp only [Bool.false_eq_true, if_false]; rfl
        | true =>
          cases n2 with
          | true => simp only [aloadOwn, hv, if_true]; rfl
          | false =>
            cases hc : cells[off]? with
            | none => simp only [aloadOwn, hv, hh, hc, if_true]; rfl
            | some y => cases y <;> simp only [aloadOwn, hv, hh, hc, if_true, isSl] <;> rfl
  | _ =>
    simp only [aload]
    cases hv : vT P t with
    | none => simp [aloadOwn, hv]
    | some n => obtain ⟨n1, n2⟩ := n; cases n2 <;> simp [aloadOwn, hv]

theorem aop_alloc (e : TypeId) : aop P ops ⟨d, .alloc e, ty, pos, after, g⟩ s K = @forceL (zT P e) ⟨fun z => @forceL (some (z.map nl)) ⟨fun z => @allocK z s.h ⟨fun b => K ({ s with h := upd s.h b (some z) }.put d (.ptr b 0))⟩⟩⟩ := by
  simp only [aop, forceL, allocK]
  cases zT P e <;> rfl
theorem nl_v (x : Value) : nl (.v x) = .v x := rfl
theorem nl_sl : nl (.sl .no []) = .sl .nil [] := rfl
theorem aop_box (e : TypeId) (x : Operand) : aop P ops ⟨d, .box e x, ty, pos, after, g⟩ s K = @forceL (aCellsK (s.ev x)) ⟨fun z => @allocK z s.h ⟨fun b => K ({ s with h := upd s.h b (some z) }.put d (.ptr b 0))⟩⟩ := by
  simp only [aop, forceL, allocK]
  cases aCellsK (s.ev x) <;> rfl

def storeK (n : Option (Nat × Bool)) (a : AV) (v : AV) (y : Operand) (s : ASt) [c : Kon ASt] : Prop :=
  match a, n with
  | .ptr b off, some n => @forceL (s.h b) ⟨fun cells => @forceL (aCellsK v) ⟨fun cs => (cs.length = n.1 ∧ off + cs.length ≤ cells.length) ∧
      match y, v with
      | .tmp ty, .sl tag rows => c.k { killW s ty v with h := upd s.h b (some (overlay cells off [.sl tag rows])) }
      | _, _ => c.k { s with h := upd s.h b (some (overlay cells off cs)) }⟩⟩
  | _, _ => False
theorem storeK_sl (n : Nat × Bool) (b off : Nat) (tag : Tag) (rows : List (List AV)) (ty : Tmp) (k : ASt → Prop) : @storeK (some n) (.ptr b off) (.sl tag rows) (.tmp ty) s ⟨k⟩ = @forceL (s.h b) ⟨fun cells => (1 = n.1 ∧ off + 1 ≤ cells.length) ∧
      @forceL (some (overlay cells off [.sl tag rows])) ⟨fun z => k { s.set ty (.sl .no rows) with h := upd s.h b (some z) }⟩⟩ := rfl
theorem storeK_tup (n : Nat × Bool) (b off : Nat) (x : List AV) (y : Operand) (k : ASt → Prop) : @storeK (some n) (.ptr b off) (.tup x) y s ⟨k⟩ = False := by
  simp only [storeK, forceL, aCellsK]; cases s.h b <;> rfl
theorem storeK_else (n : Nat × Bool) (b off : Nat) (v : AV) (y : Operand) (k : ASt → Prop) (h : isSl v = false ∨ ∀ t, y ≠ .tmp t) : @storeK (some n) (.ptr b off) v y s ⟨k⟩ = @forceL (s.h b) ⟨fun cells => @forceL (aCellsK v) ⟨fun cs => (cs.length = n.1 ∧ off + cs.length ≤ cells.length) ∧
      @forceL (some (overlay cells off cs)) ⟨fun z => k { s with h := upd s.h b (some z) }⟩⟩⟩ := by
  simp only [storeK, forceL]
  cases s.h b with
  | none => rfl
  | some cells =>
    cases hc : aCellsK v with
    | none => rfl
    | some cs =>
      simp only
      rcases h with h | h
      · cases v <;> first | (simp [isSl] at h; done) | (cases y <;> rfl) | (simp [aCellsK, cellAV] at hc; done)
      · cases y with
        | tmp t => exact absurd rfl (h t)
        | _ => rfl
theorem storeK_v (n : Nat × Bool) (b off : Nat) (x : Value) (y : Operand) (k : ASt → Prop) : @storeK (some n) (.ptr b off) (.v x) y s ⟨k⟩ = @forceL (s.h b) ⟨fun cells => @forceL (aCellsK (.v x)) ⟨fun cs => (cs.length = n.1 ∧ off + cs.length ≤ cells.length) ∧
      @forceL (some (overlay cells off cs)) ⟨fun z => k { s with h := upd s.h b (some z) }⟩⟩⟩ := storeK_else _ _ _ _ _ _ (.inl rfl)
theorem storeK_agg (n : Nat × Bool) (b off : Nat) (x : List AV) (y : Operand) (k : ASt → Prop) : @storeK (some n) (.ptr b off) (.agg x) y s ⟨k⟩ = @forceL (s.h b) ⟨fun cells => @forceL (aCellsK (.agg x)) ⟨fun cs => (cs.length = n.1 ∧ off + cs.length ≤ cells.length) ∧
      @forceL (some (overlay cells off cs)) ⟨fun z => k { s with h := upd s.h b (some z) }⟩⟩⟩ := storeK_else _ _ _ _ _ _ (.inl rfl)
theorem storeK_sm (n : Nat × Bool) (b off : Nat) (b1 o1 n1 c1 : Nat) (y : Operand) (k : ASt → Prop) : @storeK (some n) (.ptr b off) (.sm b1 o1 n1 c1) y s ⟨k⟩ = @forceL (s.h b) ⟨fun cells => @forceL (aCellsK (.sm b1 o1 n1 c1)) ⟨fun cs => (cs.length = n.1 ∧ off + cs.length ≤ cells.length) ∧
      @forceL (some (overlay cells off cs)) ⟨fun z => k { s with h := upd s.h b (some z) }⟩⟩⟩ := storeK_else _ _ _ _ _ _ (.inl rfl)
theorem storeK_mn (n : Nat × Bool) (b off : Nat)  (y : Operand) (k : ASt → Prop) : @storeK (some n) (.ptr b off) (.mn) y s ⟨k⟩ = @forceL (s.h b) ⟨fun cells => @forceL (aCellsK (.mn)) ⟨fun cs => (cs.length = n.1 ∧ off + cs.length ≤ cells.length) ∧
      @forceL (some (overlay cells off cs)) ⟨fun z => k { s with h := upd s.h b (some z) }⟩⟩⟩ := storeK_else _ _ _ _ _ _ (.inl rfl)
theorem storeK_ptr (n : Nat × Bool) (b off : Nat) (b1 o1 : Nat) (y : Operand) (k : ASt → Prop) : @storeK (some n) (.ptr b off) (.ptr b1 o1) y s ⟨k⟩ = @forceL (s.h b) ⟨fun cells => @forceL (aCellsK (.ptr b1 o1)) ⟨fun cs => (cs.length = n.1 ∧ off + cs.length ≤ cells.length) ∧
      @forceL (some (overlay cells off cs)) ⟨fun z => k { s with h := upd s.h b (some z) }⟩⟩⟩ := storeK_else _ _ _ _ _ _ (.inl rfl)
theorem storeK_fn (n : Nat × Bool) (b off : Nat) (f1 : FuncId) (c1 : List AV) (y : Operand) (k : ASt → Prop) : @storeK (some n) (.ptr b off) (.fn f1 c1) y s ⟨k⟩ = @forceL (s.h b) ⟨fun cells => @forceL (aCellsK (.fn f1 c1)) ⟨fun cs => (cs.length = n.1 ∧ off + cs.length ≤ cells.length) ∧
      @forceL (some (overlay cells off cs)) ⟨fun z => k { s with h := upd s.h b (some z) }⟩⟩⟩ := storeK_else _ _ _ _ _ _ (.inl rfl)
theorem storeK_nil (n : Nat × Bool) (b off : Nat) (k : ASt → Prop) (c : Value) : @storeK (some n) (.ptr b off) (.sl .nil []) (.const c) s ⟨k⟩ = @forceL (s.h b) ⟨fun cells => @forceL (aCellsK (.sl .nil [])) ⟨fun cs => (cs.length = n.1 ∧ off + cs.length ≤ cells.length) ∧
      @forceL (some (overlay cells off cs)) ⟨fun z => k { s with h := upd s.h b (some z) }⟩⟩⟩ := storeK_else _ _ _ _ _ _ (.inr fun _ h => by simp at h)
theorem aop_store (t : TypeId) (x y : Operand) : aop P ops ⟨none, .store t x y, ty, pos, after, g⟩ s K = @force (s.ev x) ⟨fun a => @force (s.ev y) ⟨fun v => @storeK (vT P t) a v y s ⟨K⟩⟩⟩ := by
  simp only [aop, force, storeK]
  cases hx : s.ev x with
  | ptr b off =>
    cases hv : vT P t with
    | none => rfl
    | some n =>
      simp only [forceL]
      cases hh : s.h b with
      | none => rfl
      | some cells =>
        cases hc : aCellsK (s.ev y) with
        | none => rfl
        | some cs =>
          simp only [true_and, and_assoc]
          cases y with
          | tmp t2 =>
            cases hy : s.ev (.tmp t2) with
            | sl tag rows =>
              have : s.t t2 = .sl tag rows := hy
              simp only [kill_eqW, this]
            | _ => rfl
          | _ => rfl
  | _ => rfl

/-- a test whether a slice is nil, or any other comparison -/
def binK (n : Option Bool) (P : Program) (b : BinOp) (t : TypeId) (vx vy : AV) [c : Kon AV] : Prop := match n, vx with
  | some neg, .sl _ rows => (slT P t).isSome = true ∧ @nilK rows ⟨fun b => c.k (.v (.bool (neg != b)))⟩
  | _, _ => @forceO (aBinAll P b t vx vy) ⟨c.k⟩
section
variable {b : BinOp} {t : TypeId} {vx vy : AV} {k : AV → Prop}
theorem binK_none : @binK none P b t vx vy ⟨k⟩ = @forceO (aBinAll P b t vx vy) ⟨k⟩ := by
  cases vx <;> rfl
theorem binK_sl (neg : Bool) (tag : Tag) (rows : List (List AV)) : @binK (some neg) P b t (.sl tag rows) vy ⟨k⟩ = ((slT P t).isSome = true ∧ @nilK rows ⟨fun b => k (.v (.bool (neg != b)))⟩) := rfl
theorem binK_v (neg : Bool) (x : Value) : @binK (some neg) P b t (.v x) vy ⟨k⟩ = @forceO (aBinAll P b t (.v x) vy) ⟨k⟩ := rfl
theorem binK_ptr (neg : Bool) (x y : Nat) : @binK (some neg) P b t (.ptr x y) vy ⟨k⟩ = @forceO (aBinAll P b t (.ptr x y) vy) ⟨k⟩ := rfl
theorem binK_mn (neg : Bool) : @binK (some neg) P b t .mn vy ⟨k⟩ = @forceO (aBinAll P b t .mn vy) ⟨k⟩ := rfl
theorem binK_fn (neg : Bool) (x : FuncId) (y : List AV) : @binK (some neg) P b t (.fn x y) vy ⟨k⟩ = @forceO (aBinAll P b t (.fn x y) vy) ⟨k⟩ := rfl
theorem aop_binOp (x y : Operand) (yt : TypeId) : aop P ops ⟨d, .binOp b t x y yt, ty, pos, after, g⟩ s K = @binK (isNilTest b y) P b t (s.ev x) (s.ev y) ⟨fun v => K (s.put d v)⟩ := by
  simp only [aop, binK, aval, forceO]
  cases isNilTest b y with
  | none => simp only; cases aBinAll P b t (s.ev x) (s.ev y) <;> rfl
  | some neg =>
    cases s.ev x with
    | sl tag rows => rfl
    | _ => simp only; generalize aBinAll P b t _ (s.ev y) = q; cases q <;> rfl
end

theorem aop_pick (c x y : Operand) : aop P ops ⟨d, .pick c x y, ty, pos, after, g⟩ s K = @force (s.ev c) ⟨fun v => match v with
    | .v (.bool b) => @branch b ⟨@force (dead1 (s.ev x)) ⟨fun v => K (s.put d v)⟩⟩ ⟨@force (dead1 (s.ev y)) ⟨fun v => K (s.put d v)⟩⟩
    | _ => False⟩ := by
  simp only [aop, aval, force]
  cases hc : s.ev c with
  | v z =>
    cases z with
    | bool b => cases b <;> rfl
    | _ => rfl
  | _ => rfl
theorem aop_unOp (o : UnOp) (t : TypeId) (x : Operand) : aop P ops ⟨d, .unOp o t x, ty, pos, after, g⟩ s K = @forceO (aUn o (s.ev x)) ⟨fun v => K (s.put d v)⟩ := by
  simp only [aop, aval, forceO]
  cases aUn o (s.ev x) <;> rfl
theorem aop_convert (a b : TypeId) (x : Operand) : aop P ops ⟨d, .convert a b x, ty, pos, after, g⟩ s K = @forceO (aConv P a b (s.ev x)) ⟨fun v => K (s.put d v)⟩ := by
  simp only [aop, aval, forceO]
  cases aConv P a b (s.ev x) <;> rfl
theorem aop_slice (t : TypeId) (x : Operand) (lo hi : Option Operand) : aop P ops ⟨d, .slice t x lo hi none, ty, pos, after, g⟩ s K = @forceO (aslice P t (s.ev x) (lo.map s.ev) (hi.map s.ev)) ⟨fun v => K (s.put d v)⟩ := by
  simp only [aop, aval, forceO]
  cases aslice P t (s.ev x) (lo.map s.ev) (hi.map s.ev) <;> rfl
theorem aop_fieldAddr (t : TypeId) (x : Operand) (f : Nat) : aop P ops ⟨d, .fieldAddr t x f, ty, pos, after, g⟩ s K = @forceO (afieldAddr P t (s.ev x) f) ⟨fun v => K (s.put d v)⟩ := by
  simp only [aop, aval, forceO]
  cases afieldAddr P t (s.ev x) f <;> rfl
theorem aop_field (t : TypeId) (x : Operand) (f : Nat) : aop P ops ⟨d, .field t x f, ty, pos, after, g⟩ s K = @forceO (afield P t (s.ev x) f) ⟨fun v => K (s.put d v)⟩ := by
  simp only [aop, aval, forceO]
  cases afield P t (s.ev x) f <;> rfl
theorem aop_indexAddr (t : TypeId) (x i : Operand) : aop P ops ⟨d, .indexAddr t x i, ty, pos, after, g⟩ s K = @forceO (aindexAddr P t (s.ev x) (s.ev i)) ⟨fun v => K (s.put d v)⟩ := by
  simp only [aop, aval, forceO]
  cases aindexAddr P t (s.ev x) (s.ev i) <;> rfl
theorem aop_index (t : TypeId) (x i : Operand) : aop P ops ⟨d, .index t x i, ty, pos, after, g⟩ s K = @forceO (aIndexVal P t (s.ev x) (s.ev i)) ⟨fun v => K (s.put d v)⟩ := by
  simp only [aop, aval, forceO]
  cases aIndexVal P t (s.ev x) (s.ev i) <;> rfl
theorem aop_build (t : TypeId) (ps : List (Nat × Operand)) : aop P ops ⟨d, .build t ps.toArray, ty, pos, after, g⟩ s K = @storedB d ⟨ops⟩ ⟨fun b => match b with
    | true => @forceO (abuildN P t (ps.map fun p => (p.1, s.ev p.2))) ⟨fun v => K (s.put d v)⟩
    | false => @forceO (abuild P t (ps.map fun p => (p.1, s.ev p.2))) ⟨fun v => K (s.put d v)⟩⟩ := by
  simp only [aop, forceO, storedB]
  cases stored ops d
  · simp only [Bool.false_eq_true, if_false]
    cases abuild P t (ps.map fun p => (p.1, s.ev p.2)) <;> rfl
  · simp only [if_true]
    cases abuildN P t (ps.map fun p => (p.1, s.ev p.2)) <;> rfl
/-- is it what a variable becomes at once? -/
def asgd1 (o : Op) (d : Tmp) : Bool := match o with
    | .assign (.tmp t) => t == d
    | _ => false
def asgdB (d : Option Tmp) [ops : Hid (List Oper)] [c : Kon Bool] : Prop := c.k (asgd ops.v d)
theorem asgdB_none (c : Kon Bool) (l : List Oper) : @asgdB none ⟨l⟩ c = c.k false := rfl
theorem asgdB_nil (d : Tmp) (k : Bool → Prop) : @asgdB (some d) ⟨[]⟩ ⟨k⟩ = k false := rfl
theorem asgdB_cons (d' : Option Tmp) (op : Op) (ty : TypeId) (pos : String) (after : Array Edge) (g : Option (Nat × Bool)) (l : List Oper) (t : Tmp) (k : Bool → Prop) : @asgdB (some t) ⟨⟨d', op, ty, pos, after, g⟩ :: l⟩ ⟨k⟩ = @branch (asgd1 op t) ⟨k true⟩ ⟨@asgdB (some t) ⟨l⟩ ⟨k⟩⟩ := by
  have : asgd (⟨d', op, ty, pos, after, g⟩ :: l) (some t) = (asgd1 op t || asgd l (some t)) := by
    simp only [asgd, List.any_cons]; rfl
  simp only [asgdB, this, branch]
  cases asgd1 op t <;> simp
/-- a slice that was built: as rows (bsK.std), or as one's own to write (bsK.own) -/
def bsK (e : Option (Nat × Nat × Nat)) (r : AV) (s : ASt) (d : Option Tmp) [c : Kon ASt] : Prop := bsP e r s d c.k
theorem bsK_none (r : AV) (s : ASt) (d : Option Tmp) (k : ASt → Prop) : @bsK none r s d ⟨k⟩ = @force r ⟨fun v => k (s.put d v)⟩ := rfl
theorem bsK_one (e b : Nat) (r : AV) (s : ASt) (d : Option Tmp) (k : ASt → Prop) : @bsK (some (e, 1, b)) r s d ⟨k⟩ = @force r ⟨fun v => k (s.put d v)⟩ := rfl
theorem bsK.std {e : Option (Nat × Nat × Nat)} {r : AV} {s : ASt} {d : Option Tmp} {K : ASt → Prop} (h : @force r ⟨fun v => K (s.put d v)⟩) : @bsK e r s d ⟨K⟩ := by
  have h' : K (s.put d r) := h
  unfold bsK bsP
  split
  · split
    · exact .inl h'
    · exact h'
  · exact h'
theorem bsK.own {e sz bb : Nat} {rows : List (List AV)} {s : ASt} {d : Option Tmp} {K : ASt → Prop} (hne : rows ≠ []) (hk : ∀ (b cap : Nat) (spare : List Value), s.h b = none → rows.length ≤ cap → spare.length + rows.length * sz = cap * sz →
    @forceL (some (rows.flatten.map dead1 ++ spare.map AV.v)) ⟨fun z => K ({ s with h := upd s.h b (some z) }.put d (.sm b 0 rows.length cap))⟩) (hs : 1 < sz) : @bsK (some (e, sz, bb)) (.sl .full rows) s d ⟨K⟩ := by
  unfold bsK bsP
  simp only [hs, if_true]
  exact .inr ⟨rows, rfl, e, sz, true, rows, rfl, hne, .inl rfl, hk⟩
theorem aop_buildSlice (t : TypeId) (n : Nat) (ps : List (Nat × Operand)) : aop P ops ⟨d, .buildSlice t n ps.toArray, ty, pos, after, g⟩ s K = @forceO (abuildSlice P t n (ps.map fun p => (p.1, s.ev p.2))) ⟨fun v => @asgdB d ⟨ops⟩ ⟨fun b => match b with
    | true => @bsK (slT P t) v s d ⟨K⟩
    | false => K (s.put d v)⟩⟩ := by
  simp only [aop, aval, forceO, asgdB, bsK]
  cases abuildSlice P t n (ps.map fun p => (p.1, s.ev p.2)) with
  | none => rfl
  | some v => cases asgd ops d <;> simp
def aExtract (x : AV) (i : Nat) : Option AV := match x with | .tup vs => (vs[i]?).map dead1 | _ => none
theorem aop_extract (x : Operand) (i : Nat) : aop P ops ⟨d, .extract x i, ty, pos, after, g⟩ s K = @forceO (aExtract (s.ev x) i) ⟨fun v => K (s.put d v)⟩ := by
  simp only [aop, aval, forceO, aExtract]
  cases s.ev x with
  | tup vs => simp only; cases vs[i]? <;> rfl
  | _ => rfl
theorem aop_makeFunc (f : FuncId) (cap : List Operand) : aop P ops ⟨d, .makeFunc (.func f) #[] cap.toArray, ty, pos, after, g⟩ s K = @force (.fn f (cap.map fun x => dead1 (s.ev x))) ⟨fun v => K (s.put d v)⟩ := rfl
def aNilCheck (x : AV) : Option AV := match x with | .ptr b o => some (.ptr b o) | .ea r o => some (.ea r o) | .fn f c => some (.fn f c) | _ => none
theorem aop_nilCheck (x : Operand) : aop P ops ⟨d, .nilCheck x, ty, pos, after, g⟩ s K = @forceO (aNilCheck (s.ev x)) ⟨fun v => K (s.put d v)⟩ := by
  simp only [aop, aval, forceO, aNilCheck]
  cases s.ev x <;> rfl

def callFnK (P : Program) (f : AV) (args : List AV) (s : ASt) (d : Option Tmp) [n : Hid (List AV)] [c : Kon ASt] : Prop := match f with | .fn g cap => @CallK P g (args ++ cap) s d ⟨n.v ++ cap⟩ c | _ => False
theorem callFnK_fn (g : FuncId) (cap args nx : List AV) (s : ASt) (d : Option Tmp) (k : ASt → Prop) : @callFnK P (.fn g cap) args s d ⟨nx⟩ ⟨k⟩ = @CallK P g (args ++ cap) s d ⟨nx ++ cap⟩ ⟨k⟩ := rfl
theorem aop_call (f : Operand) (args : List Operand) (ts : Array TypeId) : aop P ops ⟨d, .call ⟨.value f, args.toArray, ts⟩, ty, pos, after, g⟩ s K = @callFnK P (s.ev f) (args.map fun x => dead1 (s.ev x)) s d ⟨args.map (argN s)⟩ ⟨K⟩ := by
  simp only [aop, callFnK, CallK]
  cases s.ev f <;> rfl

/-- one's own slice grows: in its place, or in a new one -/
def growSmK (s : ASt) (d : Option Tmp) (b n sz : Nat) (cells : List AV) (rows2 : List (List AV)) [c : Kon ASt] : Prop := growSm s d c.k b n sz cells rows2
theorem growSmK.intro {s : ASt} {d : Option Tmp} {b n sz : Nat} {cells : List AV} {rows2 : List (List AV)} {K : ASt → Prop} (hk : ∀ (b' c' : Nat) (spare : List AV), (b' = b ∨ s.h b' = none) → n + rows2.length ≤ c' → spare.length + (n + rows2.length) * sz = c' * sz →
    @forceL (some ((cells.take (n * sz)).map dead1 ++ rows2.flatten.map dead1 ++ spare)) ⟨fun z => K ({ s with h := upd (upd s.h b none) b' (some z) }.put d (.sm b' 0 (n + rows2.length) c'))⟩) : @growSmK s d b n sz cells rows2 ⟨K⟩ := hk
def growMnK (s : ASt) (d : Option Tmp) (sz : Nat) (rows2 : List (List AV)) [c : Kon ASt] : Prop := growMn s d c.k sz rows2
theorem growMnK.intro {s : ASt} {d : Option Tmp} {sz : Nat} {rows2 : List (List AV)} {K : ASt → Prop} (h0 : rows2 = [] → @force .mn ⟨fun v => K (s.put d v)⟩) (hk : rows2 ≠ [] → ∀ (b' c' : Nat) (spare : List AV), s.h b' = none → rows2.length ≤ c' → spare.length + rows2.length * sz = c' * sz →
    @forceL (some (rows2.flatten.map dead1 ++ spare)) ⟨fun z => K ({ s with h := upd s.h b' (some z) }.put d (.sm b' 0 rows2.length c'))⟩) : @growMnK s d sz rows2 ⟨K⟩ := ⟨h0, hk⟩
def appendK (e : Option (Nat × Nat × Nat)) (z : Option (List AV)) (tx : Tmp) (x y : AV) (d : Option Tmp) (s : ASt) [c : Kon ASt] : Prop :=
  match x, y, e with
  | .sl tag rows, .sl _ rows2, some e => ((appOK tag e.1 e.2.1 ∧ 0 < e.2.1 ∧ 0 < e.2.2 ∧ z.map List.length = some e.2.1) ∧
      (∀ r ∈ rows, r.length = e.2.1) ∧ (∀ r ∈ rows2, r.length = e.2.1) ∧ (rows.length + rows2.length) * e.2.2 ≤ 140737488355328) ∧
      c.k ((s.set tx (.sl .no rows)).put d (.sl (appTag tag e.1 e.2.1 rows2) (rows ++ rows2)))
  | .sm b off n cc, .sl _ rows2, some e => ((off = 0 ∧ 0 < e.2.1 ∧ 0 < e.2.2 ∧ z.map List.length = some e.2.1) ∧
      (∀ r ∈ rows2, r.length = e.2.1) ∧ (n + rows2.length) * e.2.2 ≤ 140737488355328) ∧ @forceL (s.h b) ⟨fun cells => cells.length = cc * e.2.1 ∧ @growSmK s d b n e.2.1 cells rows2 c⟩
  | .mn, .sl _ rows2, some e => ((0 < e.2.1 ∧ 0 < e.2.2 ∧ z.map List.length = some e.2.1) ∧
      (∀ r ∈ rows2, r.length = e.2.1) ∧ rows2.length * e.2.2 ≤ 140737488355328) ∧ @growMnK s d e.2.1 rows2 c
  | _, _, _ => False
theorem appendK_sl (e sz bs : Nat) (z : List AV) (tx : Tmp) (tag tag2 : Tag) (rows rows2 : List (List AV)) (k : ASt → Prop) : @appendK (some (e, sz, bs)) (some z) tx (.sl tag rows) (.sl tag2 rows2) d s ⟨k⟩ =
    (((appOK tag e sz ∧ 0 < sz ∧ 0 < bs ∧ z.length = sz) ∧ (∀ r ∈ rows, r.length = sz) ∧ (∀ r ∈ rows2, r.length = sz) ∧ (rows.length + rows2.length) * bs ≤ 140737488355328) ∧
      @force (.sl (appTag tag e sz rows2) (rows ++ rows2)) ⟨fun v => k ((s.set tx (.sl .no rows)).put d v)⟩) := by
  simp only [appendK, force, Option.map_some, Option.some.injEq]
theorem appendK_sm (e sz bs : Nat) (z : List AV) (tx : Tmp) (tag2 : Tag) (b off n cc : Nat) (rows2 : List (List AV)) (k : ASt → Prop) : @appendK (some (e, sz, bs)) (some z) tx (.sm b off n cc) (.sl tag2 rows2) d s ⟨k⟩ =
    (((off = 0 ∧ 0 < sz ∧ 0 < bs ∧ z.length = sz) ∧ (∀ r ∈ rows2, r.length = sz) ∧ (n + rows2.length) * bs ≤ 140737488355328) ∧
      @forceL (s.h b) ⟨fun cells => cells.length = cc * sz ∧ @growSmK s d b n sz cells rows2 ⟨k⟩⟩) := by
  simp only [appendK, Option.map_some, Option.some.injEq]
theorem appendK_mn (e sz bs : Nat) (z : List AV) (tx : Tmp) (tag2 : Tag) (rows2 : List (List AV)) (k : ASt → Prop) : @appendK (some (e, sz, bs)) (some z) tx .mn (.sl tag2 rows2) d s ⟨k⟩ =
    (((0 < sz ∧ 0 < bs ∧ z.length = sz) ∧ (∀ r ∈ rows2, r.length = sz) ∧ rows2.length * bs ≤ 140737488355328) ∧ @growMnK s d sz rows2 ⟨k⟩) := by
  simp only [appendK, Option.map_some, Option.some.injEq]
/-- what is appended to whose element type -/
def slE (e : Option (Nat × Nat × Nat)) (P : Program) : Option (List AV) := match e with | some e => zT P e.1 | none => none
theorem slE_some (e sz bs : Nat) : slE (some (e, sz, bs)) P = zT P e := rfl
theorem aop_append (tx : Tmp) (y : Operand) (t : TypeId) : aop P ops ⟨d, .call ⟨.builtin .append, #[.tmp tx, y], #[t, t]⟩, ty, pos, after, g⟩ s K =
    @appendK (slT P t) (slE (slT P t) P) tx (s.t tx) (s.ev y) d s ⟨K⟩ := by
  simp only [aop, appendK, if_true]
  cases hx : s.t tx with
  | sl tag rows =>
    cases hy : s.ev y with
    | sl tag2 rows2 =>
      cases hs : slT P t with
      | none => rfl
      | some e => simp only [kill_eqW, hx, killW_sl, slE, true_and, and_assoc]
    | _ => rfl
  | sm b off n cc =>
    cases hy : s.ev y with
    | sl tag2 rows2 =>
      cases hs : slT P t with
      | none => rfl
      | some e =>
        simp only [slE, true_and, and_assoc, forceL, growSmK]
        cases s.h b <;> rfl
    | _ => rfl
  | mn =>
    cases hy : s.ev y with
    | sl tag2 rows2 =>
      cases hs : slT P t with
      | none => rfl
      | some e => simp only [slE, true_and, and_assoc, growMnK]
    | _ => rfl
  | _ => rfl
/-- rows are copied over one's own slice -/
theorem aop_copy (x y : Operand) (t t' : TypeId) : aop P ops ⟨d, .call ⟨.builtin .copy, #[x, y], #[t, t']⟩, ty, pos, after, g⟩ s K = @force (s.ev x) ⟨fun vx => @force (s.ev y) ⟨fun vy => match vx, vy, slT P t with
    | .sm b off n _, .sl _ rows2, some e => (∀ r ∈ rows2, r.length = e.2.1) ∧ @forceL (s.h b) ⟨fun cells => off + n * e.2.1 ≤ cells.length ∧
        @forceL (some (overlay cells off ((rows2.take n).flatten.map dead1))) ⟨fun z => @force (.v (.int .i64 (min rows2.length n : Nat))) ⟨fun v => K ({ s with h := upd s.h b (some z) }.put d v)⟩⟩⟩
    | .sm b off n _, .sm b2 off2 n2 _, some e => @forceL (s.h b) ⟨fun cells => @forceL (s.h b2) ⟨fun cells2 => (off + n * e.2.1 ≤ cells.length ∧ off2 + n2 * e.2.1 ≤ cells2.length ∧ (∀ x ∈ (cells2.drop off2).take (min n2 n * e.2.1), cellAV x = true)) ∧
        @forceL (some (overlay cells off (((cells2.drop off2).take (min n2 n * e.2.1)).map dead1))) ⟨fun z => @force (.v (.int .i64 (min n2 n : Nat))) ⟨fun v => K ({ s with h := upd s.h b (some z) }.put d v)⟩⟩⟩⟩
    | .sm b off n _, .mn, some e => @forceL (s.h b) ⟨fun cells => off + n * e.2.1 ≤ cells.length ∧
        @forceL (some (overlay cells off [])) ⟨fun z => @force (.v (.int .i64 0)) ⟨fun v => K ({ s with h := upd s.h b (some z) }.put d v)⟩⟩⟩
    | _, _, _ => False⟩⟩ := by
  simp only [aop, force]
  cases hx : s.ev x with
  | sm b off n cc =>
    cases hy : s.ev y with
    | sl tag2 rows2 =>
      cases hs : slT P t with
      | none => rfl
      | some e => simp only [forceL]; cases s.h b <;> rfl
    | sm b2 off2 n2 cc2 =>
      cases hs : slT P t with
      | none => rfl
      | some e =>
        simp only [forceL, and_assoc]
        cases s.h b with
        | none => rfl
        | some c1 => cases s.h b2 <;> rfl
    | mn =>
      cases hs : slT P t with
      | none => rfl
      | some e => simp only [forceL]; cases s.h b <;> rfl
    | _ => rfl
  | _ => rfl
theorem aop_makeSlice (t : TypeId) (l c : Operand) : aop P ops ⟨d, .makeSlice t l c, ty, pos, after, g⟩ s K = @force (s.ev l) ⟨fun vl => @force (s.ev c) ⟨fun vc => match vl, vc, slT P t with
    | .v (.int _ n), .v (.int _ m), some e => match zT P e.1 with
      | some z => (m = n ∧ 0 ≤ n ∧ z.length = e.2.1 ∧ e.2.2 * n.toNat ≤ 140737488355328 ∧ n.toNat ≤ 281474976710656) ∧
          @forceL (some (List.replicate n.toNat (z.map nl)).flatten) ⟨fun z => @allocK z s.h ⟨fun b => @force (.sm b 0 n.toNat n.toNat) ⟨fun v => K ({ s with h := upd s.h b (some z) }.put d v)⟩⟩⟩
      | none => False
    | _, _, _ => False⟩⟩ := by
  simp only [aop, force, forceL, allocK]
  cases hl : s.ev l with
  | v x =>
    cases x with
    | int k n =>
      cases hc : s.ev c with
      | v y =>
        cases y with
        | int k' m =>
          cases hs : slT P t with
          | none => rfl
          | some e => rfl
        | _ => rfl
      | _ => rfl
    | _ => rfl
  | _ => rfl

theorem aop_len (x : Operand) (t : TypeId) : aop P ops ⟨d, .call ⟨.builtin .len, #[x], #[t]⟩, ty, pos, after, g⟩ s K = @force (s.ev x) ⟨fun v => match v with
    | .sl _ rows => (slT P t).isSome = true ∧ @lenK rows.length ⟨@force (.v (.int .i64 rows.length)) ⟨fun v => K (s.put d v)⟩⟩
    | .sm _ _ n _ => (slT P t).isSome = true ∧ @lenK n ⟨@force (.v (.int .i64 n)) ⟨fun v => K (s.put d v)⟩⟩
    | .mn => (slT P t).isSome = true ∧ @force (.v (.int .i64 0)) ⟨fun v => K (s.put d v)⟩
    | v => @forceO (aLen P t v) ⟨fun v => K (s.put d v)⟩⟩ := by
  simp only [aop, aBuiltinK, aBuiltin, force, lenK]
  cases hx : s.ev x with
  | sl tag rows =>
    simp only [aLen, lenFact]
    cases hs : (slT P t).isSome <;> simp
  | sm b o n c =>
    simp only [aLen, lenFact]
    cases hs : (slT P t).isSome <;> simp
  | mn =>
    simp only [aLen, lenFact]
    cases hs : (slT P t).isSome <;> simp
  | v z =>
    simp only [lenFact, forceO]
    cases aLen P t (.v z) <;> rfl
  | _ => rfl
theorem aop_max (x y : Operand) (ts : Array TypeId) : aop P ops ⟨d, .call ⟨.builtin .max, #[x, y], ts⟩, ty, pos, after, g⟩ s K = @forceO (aMax (s.ev x) (s.ev y)) ⟨fun v => K (s.put d v)⟩ := by
  simp only [aop, aBuiltinK, aBuiltin, forceO]
  cases aMax (s.ev x) (s.ev y) <;> rfl
theorem aop_min (x y : Operand) (ts : Array TypeId) : aop P ops ⟨d, .call ⟨.builtin .min, #[x, y], ts⟩, ty, pos, after, g⟩ s K = @forceO (aMin (s.ev x) (s.ev y)) ⟨fun v => K (s.put d v)⟩ := by
  simp only [aop, aBuiltinK, aBuiltin, forceO]
  cases aMin (s.ev x) (s.ev y) <;> rfl

variable {Q : AExit → ASt → Prop}
theorem awp_condB (c : Operand) (x y : Code) : awp P (.cond c x y) Q s = @force (s.ev c) ⟨fun v => match v with
    | .v (.bool b) => @branch b ⟨awp P x Q s⟩ ⟨awp P y Q s⟩
    | _ => False⟩ := by
  simp only [awp, force]
  cases s.ev c with
  | v z => cases z <;> rfl
  | _ => rfl
end
end Go.Rw

namespace Go.Rw
/-! ### regions that draw -/

/-- the walk in the text's order -/
def aopsE (P : Program) (M : Msk) (ops : List Oper) : List Md → List Oper → ASt → (ASt → Prop) → Prop
  | _, [], s, K => K s
  | [], o :: rest, s, K => aops P ops (o :: rest) s K
  | .q :: ms, o :: rest, s, K => if awanted ops s o = true then aeff P M ops o s (fun e => aopsE P M ops ms rest (e.app o.dst s) K) else aopsE P M ops ms rest (s.put o.dst (.v undef)) K
  | .r :: ms, o :: rest, s, K => if awanted ops s o = true then aeff P (Msk.of []) ops o s (fun e => aopsE P M ops ms rest (e.app o.dst s) K) else aopsE P M ops ms rest (s.put o.dst (.v undef)) K
  | .l :: ms, o :: rest, s, K => if awanted ops s o = true then aloud P M o s (fun s' => aopsE P M ops ms rest s' K) else aopsE P M ops ms rest (s.put o.dst (.v undef)) K
  | .s :: ms, o :: rest, s, K => if awanted ops s o = true then aop P ops o s (fun s' => aopsE P M ops ms rest s' K) else aopsE P M ops ms rest (s.put o.dst (.v undef)) K

theorem aopsD_of_aops {P : Program} {M : Msk} {ops : Array Oper} {K : ASt → Prop} {ms : List Md} : ∀ (l : List Oper) (i : Nat) (s : ASt), ms.length ≤ i → aops P ops.toList l s K → aopsD P M ops ms i l s K
  | [], _, _, _, h => h
  | o :: l, i, s, hi, h => by
    have hm : mdAt ms i = .s := by simp [mdAt, List.getElem?_eq_none hi]
    simp only [aops] at h
    simp only [aopsD, hm]
    split at h
    · rename_i hw; rw [if_pos hw]; exact aop_mono (fun s' => aopsD_of_aops l (i + 1) s' (by omega)) h
    · rename_i hw; rw [if_neg hw]; exact aopsD_of_aops l (i + 1) _ (by omega) h

theorem aopsD_of_E {P : Program} {M : Msk} {ops : Array Oper} {K : ASt → Prop} {ms0 : List Md} : ∀ (ms : List Md) (l : List Oper) (i : Nat) (s : ASt), (∀ j, ms0[i + j]? = ms[j]?) → aopsE P M ops.toList ms l s K → aopsD P M ops ms0 i l s K
  | ms, [], i, s, _, h => by cases ms <;> exact h
  | [], o :: l, i, s, hm, h => aopsD_of_aops (o :: l) i s (by
      rcases Nat.lt_or_ge i ms0.length with h1 | h1
      · have := hm 0; simp [h1] at this
      · exact h1) h
  | m :: ms, o :: l, i, s, hm, h => by
    have h0 : mdAt ms0 i = m := by have := hm 0; simp at this; simp [mdAt, this]
    have hm' : ∀ j, ms0[i + 1 + j]? = ms[j]? := fun j => by have := hm (j + 1); simpa [Nat.add_assoc, Nat.add_comm 1 j] using this
    simp only [aopsD, h0]
    cases m with
    | q =>
      simp only [aopsE] at h ⊢
      split at h
      · rename_i hw; rw [if_pos hw]; exact aeff_mono (fun e => aopsD_of_E ms l (i + 1) _ hm') h
      · rename_i hw; rw [if_neg hw]; exact aopsD_of_E ms l (i + 1) _ hm' h
    | r =>
      simp only [aopsE] at h ⊢
      split at h
      · rename_i hw; rw [if_pos hw]; exact aeff_mono (fun e => aopsD_of_E ms l (i + 1) _ hm') h
      · rename_i hw; rw [if_neg hw]; exact aopsD_of_E ms l (i + 1) _ hm' h
    | l =>
      simp only [aopsE] at h ⊢
      split at h
      · rename_i hw; rw [if_pos hw]; exact aloud_mono (fun s' => aopsD_of_E ms l (i + 1) _ hm') h
      · rename_i hw; rw [if_neg hw]; exact aopsD_of_E ms l (i + 1) _ hm' h
    | s =>
      simp only [aopsE] at h ⊢
      split at h
      · rename_i hw; rw [if_pos hw]; exact aop_mono (fun s' => aopsD_of_E ms l (i + 1) _ hm') h
      · rename_i hw; rw [if_neg hw]; exact aopsD_of_E ms l (i + 1) _ hm' h

/-- may the order be any? (closed: the kernel reckons it) -/
def lexOK (P : Program) (ms : List Md) (ops : List Oper) : Bool := lexD P .any ops.toArray ms ops.length 0 (Array.replicate ops.length false)

/-- a region that draws its order: not gone into by itself -/
def regionK (P : Program) (s : ASt) (id : Nat) [ops : Hid (List Oper)] [K : Hid (AExit → ASt → Prop)] : Prop := awp P (.region id ops.v.toArray true) K.v s
theorem awp_regionK {P : Program} {Q : AExit → ASt → Prop} {s : ASt} (id : Nat) (l : List Oper) : awp P (.region id l.toArray true) Q s = @regionK P s id ⟨l⟩ ⟨Q⟩ := rfl
theorem regionK.modesM {P : Program} {ops : List Oper} {s : ASt} {id : Nat} {Q : AExit → ASt → Prop} (M : Msk) (ms : List Md) (hm : P.follows .mixedOrders = true) (h1 : lexOK P ms ops = true) (h2 : aopsE P M ops ms ops s (Q .normal)) : @regionK P s id ⟨ops⟩ ⟨Q⟩ := by
  refine .inl ⟨M, ms, ⟨hm, by simpa [lexOK] using h1⟩, ?_⟩
  have := aopsD_of_E (ops := ops.toArray) (ms0 := ms) ms ops 0 s (by simp) (by simpa using h2)
  simpa using this
theorem regionK.modes {P : Program} {ops : List Oper} {s : ASt} {id : Nat} {Q : AExit → ASt → Prop} (M : List Nat) (ms : List Md) (hm : P.follows .mixedOrders = true) (h1 : lexOK P ms ops = true) (h2 : aopsE P (Msk.of M) ops ms ops s (Q .normal)) : @regionK P s id ⟨ops⟩ ⟨Q⟩ :=
  regionK.modesM (Msk.of M) ms hm h1 h2
/-- the operations in an order of one's own -/
def pickL : List Nat → List Oper → List Oper
  | [], _ => []
  | i :: r, ops => match ops[i]? with
    | some o => o :: pickL r ops
    | none => pickL r ops
def modeL (ord : List Nat) (ms : List Md) (n : Nat) : List Md := (List.range n).map fun i => match (ord.zip ms).find? (fun p => p.1 == i) with
  | some p => p.2
  | none => .s
/-- may they be met in this order? (closed: the kernel reckons it) -/
def ordOK (P : Program) (ord : List Nat) (ms : List Md) (ops : List Oper) : Bool :=
  ord.length == ops.length && ms.length == ord.length && (ord.zip ms).all (fun p => decide (p.1 < ops.length) && mdAt (modeL ord ms ops.length) p.1 == p.2) && lexO P .any ops.toArray (modeL ord ms ops.length) ord (Array.replicate ops.length false)
theorem aopsO_of_E {P : Program} {M : Msk} {ops : Array Oper} {K : ASt → Prop} {ms0 : List Md} : ∀ (ord : List Nat) (ms : List Md) (s : ASt), ms.length = ord.length →
    (∀ p ∈ ord.zip ms, p.1 < ops.size ∧ mdAt ms0 p.1 = p.2) → aopsE P M ops.toList ms (pickL ord ops.toList) s K → aopsO P M ops ms0 ord s K
  | [], ms, s, _, _, h => by cases ms <;> exact h
  | i :: ord, [], s, hl, _, h => by simp at hl
  | i :: ord, m :: ms, s, hl, hp, h => by
    obtain ⟨hi, hm⟩ := hp (i, m) (by simp)
    simp only at hi hm
    have h0 : ops[i]? = some ops[i] := Array.getElem?_eq_getElem hi
    have h1 : ops.toList[i]? = some ops[i] := by rw [Array.getElem?_toList]; exact h0
    have hp' : ∀ p ∈ ord.zip ms, p.1 < ops.size ∧ mdAt ms0 p.1 = p.2 := fun p hq => hp p (by simp [hq])
    have hl' : ms.length = ord.length := by simpa using hl
    simp only [pickL, h1] at h
    simp only [aopsO, h0, hm]
    cases m with
    | q =>
      simp only [aopsE] at h ⊢
      split at h
      · rename_i hw; rw [if_pos hw]; exact aeff_mono (fun e => aopsO_of_E ord ms _ hl' hp') h
      · rename_i hw; rw [if_neg hw]; exact aopsO_of_E ord ms _ hl' hp' h
    | r =>
      simp only [aopsE] at h ⊢
      split at h
      · rename_i hw; rw [if_pos hw]; exact aeff_mono (fun e => aopsO_of_E ord ms _ hl' hp') h
      · rename_i hw; rw [if_neg hw]; exact aopsO_of_E ord ms _ hl' hp' h
    | l =>
      simp only [aopsE] at h ⊢
      split at h
      · rename_i hw; rw [if_pos hw]; exact aloud_mono (fun s' => aopsO_of_E ord ms _ hl' hp') h
      · rename_i hw; rw [if_neg hw]; exact aopsO_of_E ord ms _ hl' hp' h
    | s =>
      simp only [aopsE] at h ⊢
      split at h
      · rename_i hw; rw [if_pos hw]; exact aop_mono (fun s' => aopsO_of_E ord ms _ hl' hp') h
      · rename_i hw; rw [if_neg hw]; exact aopsO_of_E ord ms _ hl' hp' h
theorem regionK.orderM {P : Program} {ops l : List Oper} {s : ASt} {id : Nat} {Q : AExit → ASt → Prop} (M : Msk) (ord : List Nat) (ms : List Md) (hm : P.follows .mixedOrders = true) (h1 : ordOK P ord ms ops = true) (hl : pickL ord ops = l)
    (h2 : aopsE P M ops ms l s (Q .normal)) : @regionK P s id ⟨ops⟩ ⟨Q⟩ := by
  subst hl
  unfold ordOK at h1
  simp only [Bool.and_eq_true, beq_iff_eq, List.all_eq_true, decide_eq_true_eq] at h1
  obtain ⟨⟨⟨h3, h4⟩, h5⟩, h6⟩ := h1
  refine .inr ⟨M, modeL ord ms ops.length, ord, ⟨hm, by simpa using h3, by simpa using h6⟩, ?_⟩
  exact aopsO_of_E (ops := ops.toArray) ord ms s h4 (fun p hp => by simpa using h5 p hp) (by simpa using h2)
theorem regionK.order {P : Program} {ops l : List Oper} {s : ASt} {id : Nat} {Q : AExit → ASt → Prop} (M : List Nat) (ord : List Nat) (ms : List Md) (hm : P.follows .mixedOrders = true) (h1 : ordOK P ord ms ops = true) (hl : pickL ord ops = l)
    (h2 : aopsE P (Msk.of M) ops ms l s (Q .normal)) : @regionK P s id ⟨ops⟩ ⟨Q⟩ := regionK.orderM (Msk.of M) ord ms hm h1 hl h2
/-- what is read quietly was there before the region -/
theorem regionK.free {P : Program} {ops l : List Oper} {s : ASt} {id : Nat} {Q : AExit → ASt → Prop} (ord : List Nat) (ms : List Md) (hm : P.follows .mixedOrders = true) (h1 : ordOK P ord ms ops = true) (hl : pickL ord ops = l)
    (h2 : aopsE P (Msk.fresh s.h) ops ms l s (Q .normal)) : @regionK P s id ⟨ops⟩ ⟨Q⟩ := regionK.orderM (Msk.fresh s.h) ord ms hm h1 hl h2
def qs : Nat → List Md
  | 0 => []
  | k + 1 => .q :: qs k
theorem qs_zero : qs 0 = [] := rfl
theorem regionK.intro {P : Program} {ops : List Oper} {s : ASt} {id : Nat} {Q : AExit → ASt → Prop} (k : Nat) (hm : P.follows .mixedOrders = true) (h1 : lexOK P (qs k) ops = true) (h2 : aopsE P (Msk.of []) ops (qs k) ops s (Q .normal)) : @regionK P s id ⟨ops⟩ ⟨Q⟩ := regionK.modes [] (qs k) hm h1 h2

/-- what holds behind a region that draws -/
theorem regionK.cut {P : Program} {ops : List Oper} {id n : Nat} {t : Nat → AV} {h : Nat → Option (List AV)} {y : Code} {Q : AExit → ASt → Prop} (M : (Nat → AV) → (Nat → Option (List AV)) → Prop) (hx : @regionK P ⟨n, t, h⟩ id ⟨ops⟩ ⟨cutQ M n Q⟩)
    (hy : ∀ t h, M t h → awp P y Q ⟨n, t, h⟩) : @regionK P ⟨n, t, h⟩ id ⟨ops⟩ ⟨seqQ P y Q⟩ := awp_mono (.region id ops.toArray true) (cutQ_use hy) hx

/-- a call that may write objects: the objects behind it are named -/
theorem CallK.mh {P : Program} {g : FuncId} {args args' : List AV} {s : ASt} {d : Option Tmp} {K : ASt → Prop} {nx : Hid (List AV)} {h : Nat → Option (List AV)} {R : AV → (Nat → Option (List AV)) → Prop} (hm : MSpec P g args' h R) (ha : args = args') (hs : SubH h s.h)
    (hk : ∀ r h' H, R r h' → (∀ b c, h b = none → s.h b = some c → H b = some c) → (∀ b c, h' b = some c → H b = some c) → (∀ b c, h' b = some c → h b = none → s.h b = none) → @force r ⟨fun r => K ({ s with h := H }.put d r)⟩) : @CallK P g args s d nx ⟨K⟩ := by
  refine CallK.mf hm ha hs fun r h' hr hf => hk r h' _ hr (fun b c hn hb => ?_) (fun b c hb => by simp [mergeH, hb]) hf
  unfold mergeH
  cases hq : h' b with
  | none => simp [hn, hb]
  | some e => have := hf b e hq hn; rw [hb] at this; simp at this
theorem CallK.fresh {P : Program} {g : FuncId} {args args' : List AV} {s : ASt} {d : Option Tmp} {K : ASt → Prop} {nx : Hid (List AV)} {R : AV → (Nat → Option (List AV)) → Prop} (hm : MSpec P g args' (fun _ => none) R) (ha : args = args')
    (hk : ∀ r h' H, R r h' → (∀ b c, s.h b = some c → H b = some c) → (∀ b c, h' b = some c → H b = some c) → (∀ b c, h' b = some c → s.h b = none) → @force r ⟨fun r => K ({ s with h := H }.put d r)⟩) : @CallK P g args s d nx ⟨K⟩ :=
  CallK.mh hm ha (fun b c h => by simp at h) fun r h' H hr h1 h2 h3 => hk r h' H hr (fun b c => h1 b c rfl) h2 (fun b c hb => h3 b c hb rfl)

section
variable {P : Program} {ops : List Oper} {s : ASt} {K : ASt → Prop} {d : Option Tmp} {ty : TypeId} {pos : String} {after : Array Edge} {g : Option (Nat × Bool)} {rest : List Oper} {op : Op}

variable {M : Msk}
theorem aopsE_nil (ms : List Md) : aopsE P M ops ms [] s K = K s := by cases ms <;> rfl
theorem aopsE_zero (o : Oper) : aopsE P M ops [] (o :: rest) s K = aops P ops (o :: rest) s K := rfl
theorem aopsE_q (ms : List Md) : aopsE P M ops (.q :: ms) (⟨d, op, ty, pos, after, none⟩ :: rest) s K = @forceS s ⟨fun s => aeff P M ops ⟨d, op, ty, pos, after, none⟩ s (fun e => aopsE P M ops ms rest (e.app d s) K)⟩ := by
  simp [aopsE, forceS, awanted]
theorem aopsE_qguard (ms : List Md) (j : Nat) (want : Bool) : aopsE P M ops (.q :: ms) (⟨d, op, ty, pos, after, some (j, want)⟩ :: rest) s K = @forceS s ⟨fun s =>
    @wantB s j want ⟨ops⟩ ⟨aeff P M ops ⟨d, op, ty, pos, after, some (j, want)⟩ s (fun e => aopsE P M ops ms rest (e.app d s) K)⟩ ⟨aopsE P M ops ms rest (s.put d (.v undef)) K⟩⟩ := rfl
theorem aopsE_r (ms : List Md) : aopsE P M ops (.r :: ms) (⟨d, op, ty, pos, after, none⟩ :: rest) s K = @forceS s ⟨fun s => aeff P (Msk.of []) ops ⟨d, op, ty, pos, after, none⟩ s (fun e => aopsE P M ops ms rest (e.app d s) K)⟩ := by
  simp [aopsE, forceS, awanted]
theorem aopsE_rguard (ms : List Md) (j : Nat) (want : Bool) : aopsE P M ops (.r :: ms) (⟨d, op, ty, pos, after, some (j, want)⟩ :: rest) s K = @forceS s ⟨fun s =>
    @wantB s j want ⟨ops⟩ ⟨aeff P (Msk.of []) ops ⟨d, op, ty, pos, after, some (j, want)⟩ s (fun e => aopsE P M ops ms rest (e.app d s) K)⟩ ⟨aopsE P M ops ms rest (s.put d (.v undef)) K⟩⟩ := rfl
theorem aopsE_l (ms : List Md) : aopsE P M ops (.l :: ms) (⟨d, op, ty, pos, after, none⟩ :: rest) s K = @forceS s ⟨fun s => aloud P M ⟨d, op, ty, pos, after, none⟩ s (fun s => aopsE P M ops ms rest s K)⟩ := by
  simp [aopsE, forceS, awanted]
theorem aopsE_s (ms : List Md) : aopsE P M ops (.s :: ms) (⟨d, op, ty, pos, after, none⟩ :: rest) s K = @forceS s ⟨fun s => aop P ops ⟨d, op, ty, pos, after, none⟩ s (fun s => aopsE P M ops ms rest s K)⟩ := by
  simp [aopsE, forceS, awanted]
theorem aopsE_sguard (ms : List Md) (j : Nat) (want : Bool) : aopsE P M ops (.s :: ms) (⟨d, op, ty, pos, after, some (j, want)⟩ :: rest) s K = @forceS s ⟨fun s =>
    @wantB s j want ⟨ops⟩ ⟨aop P ops ⟨d, op, ty, pos, after, some (j, want)⟩ s (fun s => aopsE P M ops ms rest s K)⟩ ⟨aopsE P M ops ms rest (s.put d (.v undef)) K⟩⟩ := rfl
/-- a call that writes objects, whose place in the order is free -/
def LoudK (P : Program) (M : Msk) (g : FuncId) (args : List AV) (s : ASt) (d : Option Tmp) [c : Kon ASt] : Prop := ∃ h R, (∀ b, b ∉ M → h b = none) ∧ SubH h s.h ∧ MSpec P g args h R ∧
          ∀ r h', R r h' → (∀ b c, h' b = some c → h b = none → s.h b = none) → c.k ({ s with h := mergeH s.h h h' }.put d r)
theorem LoudK.mf {M : Msk} {g : FuncId} {args args' : List AV} {h : Nat → Option (List AV)} {R : AV → (Nat → Option (List AV)) → Prop} (hm : MSpec P g args' h R) (ha : args = args') (hM : ∀ b, b ∉ M → h b = none) (hs : SubH h s.h)
    (hk : ∀ r h', R r h' → (∀ b c, h' b = some c → h b = none → s.h b = none) → @force r ⟨fun r => K ({ s with h := mergeH s.h h h' }.put d r)⟩) : @LoudK P M g args s d ⟨K⟩ := by
  subst ha
  exact ⟨h, R, hM, hs, hm, hk⟩
theorem LoudK.mh {M : Msk} {g : FuncId} {args args' : List AV} {h : Nat → Option (List AV)} {R : AV → (Nat → Option (List AV)) → Prop} (hm : MSpec P g args' h R) (ha : args = args') (hM : ∀ b, b ∉ M → h b = none) (hs : SubH h s.h)
    (hk : ∀ r h' H, R r h' → (∀ b c, h b = none → s.h b = some c → H b = some c) → (∀ b c, h' b = some c → H b = some c) → (∀ b c, h' b = some c → h b = none → s.h b = none) → @force r ⟨fun r => K ({ s with h := H }.put d r)⟩) : @LoudK P M g args s d ⟨K⟩ := by
  refine LoudK.mf hm ha hM hs fun r h' hr hf => hk r h' _ hr (fun b c hn hb => ?_) (fun b c hb => by simp [mergeH, hb]) hf
  unfold mergeH
  cases hq : h' b with
  | none => simp [hn, hb]
  | some e => have := hf b e hq hn; rw [hb] at this; simp at this
theorem LoudK.oneOf {M : Msk} {g : FuncId} {args args' : List AV} {b : Nat} {c : List AV} {R : AV → List AV → Prop} (hm : MSpec P g args' (Rw.one b c) (fun r h' => ∃ c', R r c' ∧ h' = Rw.one b c')) (ha : args = args') (hb : b ∈ M) (hs : WeakO c (s.h b))
    (hk : ∀ r c', R r c' → @force r ⟨fun r => @forceL (some c') ⟨fun c' => K ({ s with h := upd s.h b (some c') }.put d r)⟩⟩) : @LoudK P M g args s d ⟨K⟩ := by
  subst ha
  have ho : ∀ (c : List AV) (k : Nat), k ∉ M → Rw.one b c k = none := fun c k hkm => by
    have : k ≠ b := fun e => hkm (by rw [e]; exact hb)
    simp [Rw.one, upd, this]
  refine ⟨_, _, ho c, SubH_one.2 hs, hm, fun r h' ⟨c', h1, h2⟩ _ => ?_⟩
  subst h2
  rw [merge_one]
  exact hk r c' h1
theorem LoudK.one {M : Msk} {g : FuncId} {args args' : List AV} {b : Nat} {c c' : List AV} {x : AV} (hm : MSpec P g args' (Rw.one b c) (fun r h' => r = x ∧ h' = Rw.one b c')) (ha : args = args') (hb : b ∈ M) (hs : WeakO c (s.h b))
    (hk : @force x ⟨fun r => @forceL (some c') ⟨fun c' => K ({ s with h := upd s.h b (some c') }.put d r)⟩⟩) : @LoudK P M g args s d ⟨K⟩ :=
  LoudK.oneOf (R := fun r c2 => r = x ∧ c2 = c') (hm.mono fun r h' ⟨h1, h2⟩ => ⟨c', ⟨h1, rfl⟩, h2⟩) ha hb hs fun r c2 ⟨h1, h2⟩ => by subst h1; subst h2; exact hk
def loudFnK (P : Program) (M : Msk) (f : AV) (args : List AV) (s : ASt) (d : Option Tmp) [c : Kon ASt] : Prop := match f with | .fn g cap => @LoudK P M g (args ++ cap) s d c | _ => False
theorem loudFnK_fn (g : FuncId) (cap args : List AV) (s : ASt) (d : Option Tmp) (k : ASt → Prop) : @loudFnK P M (.fn g cap) args s d ⟨k⟩ = @LoudK P M g (args ++ cap) s d ⟨k⟩ := rfl
theorem aloud_call (f : Operand) (args : List Operand) (ts : Array TypeId) : aloud P M ⟨d, .call ⟨.value f, args.toArray, ts⟩, ty, pos, after, g⟩ s K = @loudFnK P M (dead1 (s.ev f)) (args.map fun x => dead1 (s.ev x)) s d ⟨K⟩ := by
  simp only [aloud, loudFnK, LoudK, ASt.evd]
  cases dead1 (s.ev f) <;> rfl

/-- an append to one's own slice, whose place in the order is free -/
def loudAppK (M : Msk) (e : Option (Nat × Nat × Nat)) (z : Option (List AV)) (x y : AV) (d : Option Tmp) (s : ASt) [c : Kon ASt] : Prop :=
  match x, y, e with
  | .sm b off n cc, .sl _ rows2, some e => ((off = 0 ∧ 0 < e.2.1 ∧ 0 < e.2.2 ∧ z.map List.length = some e.2.1) ∧
      (∀ r ∈ rows2, r.length = e.2.1) ∧ (n + rows2.length) * e.2.2 ≤ 140737488355328 ∧ b ∈ M) ∧ @forceL (s.h b) ⟨fun cells => cells.length = cc * e.2.1 ∧ @growSmK s d b n e.2.1 cells rows2 c⟩
  | .mn, .sl _ rows2, some e => ((0 < e.2.1 ∧ 0 < e.2.2 ∧ z.map List.length = some e.2.1) ∧
      (∀ r ∈ rows2, r.length = e.2.1) ∧ rows2.length * e.2.2 ≤ 140737488355328) ∧ @growMnK s d e.2.1 rows2 c
  | _, _, _ => False
theorem loudAppK_sm (e sz bs : Nat) (z : List AV) (tag2 : Tag) (b off n cc : Nat) (rows2 : List (List AV)) (k : ASt → Prop) : @loudAppK M (some (e, sz, bs)) (some z) (.sm b off n cc) (.sl tag2 rows2) d s ⟨k⟩ =
    (((off = 0 ∧ 0 < sz ∧ 0 < bs ∧ z.length = sz) ∧ (∀ r ∈ rows2, r.length = sz) ∧ (n + rows2.length) * bs ≤ 140737488355328 ∧ b ∈ M) ∧
      @forceL (s.h b) ⟨fun cells => cells.length = cc * sz ∧ @growSmK s d b n sz cells rows2 ⟨k⟩⟩) := by
  simp only [loudAppK, Option.map_some, Option.some.injEq]
theorem loudAppK_mn (e sz bs : Nat) (z : List AV) (tag2 : Tag) (rows2 : List (List AV)) (k : ASt → Prop) : @loudAppK M (some (e, sz, bs)) (some z) .mn (.sl tag2 rows2) d s ⟨k⟩ =
    (((0 < sz ∧ 0 < bs ∧ z.length = sz) ∧ (∀ r ∈ rows2, r.length = sz) ∧ rows2.length * bs ≤ 140737488355328) ∧ @growMnK s d sz rows2 ⟨k⟩) := by
  simp only [loudAppK, Option.map_some, Option.some.injEq]
theorem aloud_append (tx : Tmp) (y : Operand) (t : TypeId) : aloud P M ⟨d, .call ⟨.builtin .append, #[.tmp tx, y], #[t, t]⟩, ty, pos, after, g⟩ s K =
    @loudAppK M (slT P t) (slE (slT P t) P) (dead1 (s.t tx)) (dead1 (s.ev y)) d s ⟨K⟩ := by
  simp only [aloud, loudAppK, ASt.evd, ev_tmp]
  cases hx : dead1 (s.t tx) with
  | sm b off n cc =>
    cases hy : dead1 (s.ev y) with
    | sl tag2 rows2 =>
      cases hs : slT P t with
      | none => rfl
      | some e =>
        simp only [slE, true_and, and_assoc, forceL, growSmK]
        cases s.h b <;> rfl
    | _ => rfl
  | mn =>
    cases hy : dead1 (s.ev y) with
    | sl tag2 rows2 =>
      cases hs : slT P t with
      | none => rfl
      | some e => simp only [slE, true_and, and_assoc, growMnK]
    | _ => rfl
  | _ => rfl

def loudCopyK (M : Msk) (e : Option (Nat × Nat × Nat)) (x y : AV) (d : Option Tmp) (s : ASt) [c : Kon ASt] : Prop := match x, y, e with
  | .sm b off n _, .sm b2 off2 n2 _, some e => (b ∈ M ∧ b2 ∈ M) ∧ @forceL (s.h b) ⟨fun cells => @forceL (s.h b2) ⟨fun cells2 => (off + n * e.2.1 ≤ cells.length ∧ off2 + n2 * e.2.1 ≤ cells2.length ∧ (∀ x ∈ (cells2.drop off2).take (min n2 n * e.2.1), cellAV x = true)) ∧
        @forceL (some (overlay cells off (((cells2.drop off2).take (min n2 n * e.2.1)).map dead1))) ⟨fun z => @force (.v (.int .i64 (min n2 n : Nat))) ⟨fun v => c.k ({ s with h := upd s.h b (some z) }.put d v)⟩⟩⟩⟩
  | _, _, _ => False
theorem loudCopyK_sm (e : Nat × Nat × Nat) (b off n cc b2 off2 n2 cc2 : Nat) (k : ASt → Prop) : @loudCopyK M (some e) (.sm b off n cc) (.sm b2 off2 n2 cc2) d s ⟨k⟩ =
    ((b ∈ M ∧ b2 ∈ M) ∧ @forceL (s.h b) ⟨fun cells => @forceL (s.h b2) ⟨fun cells2 => (off + n * e.2.1 ≤ cells.length ∧ off2 + n2 * e.2.1 ≤ cells2.length ∧ (∀ x ∈ (cells2.drop off2).take (min n2 n * e.2.1), cellAV x = true)) ∧
        @forceL (some (overlay cells off (((cells2.drop off2).take (min n2 n * e.2.1)).map dead1))) ⟨fun z => @force (.v (.int .i64 (min n2 n : Nat))) ⟨fun v => k ({ s with h := upd s.h b (some z) }.put d v)⟩⟩⟩⟩) := rfl
theorem aloud_copy (x y : Operand) (t t' : TypeId) : aloud P M ⟨d, .call ⟨.builtin .copy, #[x, y], #[t, t']⟩, ty, pos, after, g⟩ s K = @loudCopyK M (slT P t) (dead1 (s.ev x)) (dead1 (s.ev y)) d s ⟨K⟩ := by
  simp only [aloud, loudCopyK, ASt.evd]
  cases hx : dead1 (s.ev x) with
  | sm b off n cc =>
    cases hy : dead1 (s.ev y) with
    | sm b2 off2 n2 cc2 =>
      cases hs : slT P t with
      | none => rfl
      | some e =>
        simp only [forceL, and_assoc]
        cases s.h b with
        | none => rfl
        | some c1 => cases s.h b2 <;> rfl
    | _ => rfl
  | _ => rfl
def loudStoreK (M : Msk) (n : Option (Nat × Bool)) (a v : AV) (s : ASt) [c : Kon ASt] : Prop := match a, n with
  | .ptr b off, some n => ((isSl v = false ∧ noRef v = true) ∧ b ∈ M) ∧ @forceL (s.h b) ⟨fun cells => @forceL (aCellsK v) ⟨fun cs => (cs.length = n.1 ∧ off + cs.length ≤ cells.length) ∧ @forceL (some (overlay cells off cs)) ⟨fun z => c.k { s with h := upd s.h b (some z) }⟩⟩⟩
  | _, _ => False
theorem loudStoreK_ptr (n : Nat × Bool) (b off : Nat) (v : AV) (k : ASt → Prop) : @loudStoreK M (some n) (.ptr b off) v s ⟨k⟩ = (((isSl v = false ∧ noRef v = true) ∧ b ∈ M) ∧ @forceL (s.h b) ⟨fun cells => @forceL (aCellsK v) ⟨fun cs => (cs.length = n.1 ∧ off + cs.length ≤ cells.length) ∧ @forceL (some (overlay cells off cs)) ⟨fun z => k { s with h := upd s.h b (some z) }⟩⟩⟩) := rfl
theorem aloud_store (t : TypeId) (x y : Operand) : aloud P M ⟨none, .store t x y, ty, pos, after, g⟩ s K = @force (dead1 (s.ev x)) ⟨fun a => @force (dead1 (s.ev y)) ⟨fun v => @loudStoreK M (vT P t) a v s ⟨K⟩⟩⟩ := by
  simp only [aloud, force, ASt.evd, loudStoreK]
  cases hx : dead1 (s.ev x) with
  | ptr b off =>
    cases hv : vT P t with
    | none => rfl
    | some n =>
      simp only [forceL, true_and, and_assoc]
      cases s.h b with
      | none => rfl
      | some cells =>
        cases aCellsK (dead1 (s.ev y)) with
        | none => rfl
        | some cs => rfl
  | _ => rfl

variable {E : Eff → Prop}
theorem app_val (d : Option Tmp) (x : AV) (s : ASt) : (Eff.val x).app d s = s.put d x := app_val' d x s
theorem app_hand (d : Option Tmp) (t : Nat) (s : ASt) : (Eff.hand t).app d s = (killW s t (s.t t)).put d (s.t t) := by
  rw [app_hand', kill_eqW]

def effF (v : AV) [c : Kon Eff] : Prop := c.k (.val v)
theorem effF_eq (v : AV) (k : Eff → Prop) : @effF v ⟨k⟩ = k (.val v) := rfl

theorem aeff_assign_tmp (t : Tmp) : aeff P M ops ⟨d, .assign (.tmp t), ty, pos, after, g⟩ s E = E (.hand t) := rfl
theorem aeff_assign_const (c : Value) : aeff P M ops ⟨d, .assign (.const c), ty, pos, after, g⟩ s E = @effF (dead1 (c2a c)) ⟨E⟩ := rfl
theorem aeff_move_const (c : Value) : aeff P M ops ⟨d, .move (.const c), ty, pos, after, g⟩ s E = @effF (dead1 (dead1 (dead1 (c2a c)))) ⟨E⟩ := rfl
theorem aeff_move_func (c : FuncId) : aeff P M ops ⟨d, .move (.func c), ty, pos, after, g⟩ s E = @effF (.fn c []) ⟨E⟩ := rfl
theorem aeff_move_tmp (t : Tmp) : aeff P M ops ⟨d, .move (.tmp t), ty, pos, after, g⟩ s E = @feedsB d ⟨ops⟩ ⟨fun b => match b with | true => E (.hand t) | false => @effF (dead1 (s.t t)) ⟨E⟩⟩ := by
  simp only [aeff, feedsB]
  cases feeds ops d <;> rfl
def callFnQ (P : Program) (f : AV) (args : List AV) [c : Kon AV] : Prop := match f with | .fn g cap => @CallQ P g (args ++ cap) c | _ => False
theorem callFnQ_fn (g : FuncId) (cap args : List AV) (k : AV → Prop) : @callFnQ P (.fn g cap) args ⟨k⟩ = @CallQ P g (args ++ cap) ⟨k⟩ := rfl
theorem aeff_call (f : Operand) (args : List Operand) (ts : Array TypeId) : aeff P M ops ⟨d, .call ⟨.value f, args.toArray, ts⟩, ty, pos, after, g⟩ s E = @callFnQ P (dead1 (s.ev f)) (args.map fun x => dead1 (s.ev x)) ⟨fun x => E (.val x)⟩ := by
  simp only [aeff, callFnQ, CallQ, ASt.evd]
  cases dead1 (s.ev f) <;> rfl

def effO (v : Option AV) [c : Kon Eff] : Prop := match v with | some r => c.k (.val (dead1 r)) | none => False
theorem effO_some (v : AV) (k : Eff → Prop) : @effO (some v) ⟨k⟩ = @effF (dead1 v) ⟨k⟩ := rfl
def effS (v : Option AV) [c : Kon Eff] : Prop := match v with | some r => c.k (.val r) | none => False
theorem effS_some (v : AV) (k : Eff → Prop) : @effS (some v) ⟨k⟩ = @effF v ⟨k⟩ := rfl
theorem effS_none [c : Kon Eff] : effS none = False := rfl
theorem effO_none [c : Kon Eff] : effO none = False := rfl

theorem aeff_binOp (b : BinOp) (t : TypeId) (x y : Operand) (yt : TypeId) : aeff P M ops ⟨d, .binOp b t x y yt, ty, pos, after, g⟩ s E = @effO (aBinAll P b t (dead1 (s.ev x)) (dead1 (s.ev y))) ⟨E⟩ := rfl
/-- a field is read out of memory: the right to write may go with it -/
def takeK (n : Nat × Bool) (cells : List AV) (s : ASt) (b off : Nat) (d : Option Tmp) [ops : Hid (List Oper)] [c : Kon Eff] : Prop :=
  match feeds ops.v d, n.2, cells[off]? with
  | true, false, some (.sl tag rows) => c.k (.take b off (.sl tag rows))
  | _, _, _ => match cellsAt n.1 n.2 cells off with
    | some r => c.k (.val (dead1 r))
    | none => False
theorem takeK_agg (n : Nat) (cells : List AV) (b off : Nat) (k : Eff → Prop) : @takeK (n, true) cells s b off d ⟨ops⟩ ⟨k⟩ = @effO (cellsAt n true cells off) ⟨k⟩ := by
  simp only [takeK, effO]
  cases feeds ops d <;> rfl
theorem takeK_one (n : Nat) (cells : List AV) (b off : Nat) (k : Eff → Prop) : @takeK (n, false) cells s b off d ⟨ops⟩ ⟨k⟩ = @forceO cells[off]? ⟨fun v => match v with
    | .sl tag rows => @feedsB d ⟨ops⟩ ⟨fun f => match f with | true => k (.take b off (.sl tag rows)) | false => @effO (cellsAt n false cells off) ⟨k⟩⟩
    | _ => @effO (cellsAt n false cells off) ⟨k⟩⟩ := by
  unfold takeK feedsB
  simp only [effO]
  cases hf : feeds ops d with
  | false =>
    cases hc : cells[off]? with
    | none => simp only [forceO, cellsAt, hc]; rfl
    | some y => cases y <;> rfl
  | true =>
    cases hc : cells[off]? with
    | none => simp only [forceO, cellsAt, hc]; rfl
    | some y => cases y <;> rfl
theorem aeff_load (t : TypeId) (x : Operand) : aeff P M ops ⟨d, .load t x, ty, pos, after, g⟩ s E = @force (dead1 (s.ev x)) ⟨fun a => match a with
    | .ea row off => match vT P t with
      | some n => @effO (cellsAt n.1 n.2 row off) ⟨E⟩
      | none => False
    | .ptr b off => match vT P t with
      | some n => @forceL (maskH M s.h b) ⟨fun cells => @takeK n cells s b off d ⟨ops⟩ ⟨E⟩⟩
      | none => False
    | _ => False⟩ := by
  simp only [aeff, force, ASt.evd]
  cases hx : dead1 (s.ev x) with
  | ea row off =>
    have : (if feeds ops d = true then aloadOwn P { s with h := maskH M s.h } t (.ea row off) else none) = none := by
      split
      · unfold aloadOwn; cases vT P t with
        | none => rfl
        | some n => obtain ⟨a, b⟩ := n; cases b <;> rfl
      · rfl
    rw [this]
    simp only [aload]
    cases vT P t with
    | none => rfl
    | some n => rfl
  | ptr b off =>
    simp only [aload]
    cases hv : vT P t with
    | none => simp [aloadOwn, hv]
    | some n =>
      obtain ⟨n1, n2⟩ := n
      cases hh : maskH M s.h b with
      | none => cases n2 <;> simp [aloadOwn, hv, hh, forceL]
      | some cells =>
        simp only [forceL, takeK]
        cases hf : feeds ops d with
        | false => simp only [Bool.false_eq_true, if_false]; rfl
        | true =>
          cases n2 with
          | true => simp only [aloadOwn, hv, if_true]; rfl
          | false =>
            cases hc : cells[off]? with
            | none => simp only [aloadOwn, hv, hh, hc, if_true]; rfl
            | some y => cases y <;> simp only [aloadOwn, hv, hh, hc, if_true, isSl] <;> rfl
  | _ =>
    simp only [aload]
    cases hv : vT P t with
    | none => simp [aloadOwn, hv]
    | some n => obtain ⟨n1, n2⟩ := n; cases n2 <;> simp [aloadOwn, hv]
theorem app_take {x : AV} {b off : Nat} : (Eff.take b off x).app d s = (s.killAt (.cell b off)).put d x := by
  refine ASt.ext' (by rw [app_n, put_n]; rfl) ?_ (by rw [app_h, put_h]; rfl)
  funext k
  rw [app_t, put_t]
  simp [Eff.src, Eff.valOf, ASt.killAt]
  try rfl
theorem aeff_pick (c x y : Operand) : aeff P M ops ⟨d, .pick c x y, ty, pos, after, g⟩ s E = @force (dead1 (s.ev c)) ⟨fun v => match v with
    | .v (.bool b) => @branch b ⟨@effF (dead1 (dead1 (dead1 (s.ev x)))) ⟨E⟩⟩ ⟨@effF (dead1 (dead1 (dead1 (s.ev y)))) ⟨E⟩⟩
    | _ => False⟩ := by
  simp only [aeff, aval, force, ASt.evd]
  cases dead1 (s.ev c) with
  | v z =>
    cases z with
    | bool b => cases b <;> rfl
    | _ => rfl
  | _ => rfl
theorem aeff_unOp (o : UnOp) (t : TypeId) (x : Operand) : aeff P M ops ⟨d, .unOp o t x, ty, pos, after, g⟩ s E = @effO (aUn o (dead1 (s.ev x))) ⟨E⟩ := rfl
theorem aeff_convert (a b : TypeId) (x : Operand) : aeff P M ops ⟨d, .convert a b x, ty, pos, after, g⟩ s E = @effO (aConv P a b (dead1 (s.ev x))) ⟨E⟩ := rfl
theorem aeff_slice (t : TypeId) (x : Operand) (lo hi : Option Operand) : aeff P M ops ⟨d, .slice t x lo hi none, ty, pos, after, g⟩ s E = @effO (aslice P t (dead1 (s.ev x)) (lo.map fun x => dead1 (s.ev x)) (hi.map fun x => dead1 (s.ev x))) ⟨E⟩ := rfl
theorem aeff_fieldAddr (t : TypeId) (x : Operand) (f : Nat) : aeff P M ops ⟨d, .fieldAddr t x f, ty, pos, after, g⟩ s E = @effO (afieldAddr P t (dead1 (s.ev x)) f) ⟨E⟩ := rfl
theorem aeff_field (t : TypeId) (x : Operand) (f : Nat) : aeff P M ops ⟨d, .field t x f, ty, pos, after, g⟩ s E = @effO (afield P t (dead1 (s.ev x)) f) ⟨E⟩ := rfl
theorem aeff_indexAddr (t : TypeId) (x i : Operand) : aeff P M ops ⟨d, .indexAddr t x i, ty, pos, after, g⟩ s E = @effO (aindexAddr P t (dead1 (s.ev x)) (dead1 (s.ev i))) ⟨E⟩ := rfl
theorem aeff_index (t : TypeId) (x i : Operand) : aeff P M ops ⟨d, .index t x i, ty, pos, after, g⟩ s E = @effO (aIndexVal P t (dead1 (s.ev x)) (dead1 (s.ev i))) ⟨E⟩ := rfl
theorem aeff_build (t : TypeId) (ps : List (Nat × Operand)) : aeff P M ops ⟨d, .build t ps.toArray, ty, pos, after, g⟩ s E = @effO (abuild P t (ps.map fun p => (p.1, dead1 (s.ev p.2)))) ⟨E⟩ := rfl
theorem aeff_buildSlice (t : TypeId) (n : Nat) (ps : List (Nat × Operand)) : aeff P M ops ⟨d, .buildSlice t n ps.toArray, ty, pos, after, g⟩ s E = @effS (abuildSlice P t n (ps.map fun p => (p.1, dead1 (s.ev p.2)))) ⟨E⟩ := rfl
theorem aeff_extract (x : Operand) (i : Nat) : aeff P M ops ⟨d, .extract x i, ty, pos, after, g⟩ s E = @effO (aExtract (dead1 (s.ev x)) i) ⟨E⟩ := rfl
theorem aeff_makeFunc (f : FuncId) (cap : List Operand) : aeff P M ops ⟨d, .makeFunc (.func f) #[] cap.toArray, ty, pos, after, g⟩ s E = @effF (.fn f (cap.map fun x => dead1 (s.ev x))) ⟨E⟩ := by
  simp only [aeff, aval, effF, ASt.evd, dead1_dead1]
  rfl
theorem aeff_nilCheck (x : Operand) : aeff P M ops ⟨d, .nilCheck x, ty, pos, after, g⟩ s E = @effO (aNilCheck (dead1 (s.ev x))) ⟨E⟩ := rfl
theorem aeff_len (x : Operand) (t : TypeId) : aeff P M ops ⟨d, .call ⟨.builtin .len, #[x], #[t]⟩, ty, pos, after, g⟩ s E = @effO (aLen P t (dead1 (s.ev x))) ⟨E⟩ := rfl

def growK (e : Option (Nat × Nat × Nat)) (z : Option (List AV)) (tx : Tmp) (x y : AV) [c : Kon Eff] : Prop :=
  match x, y, e with
  | .sl tag rows, .sl _ rows2, some e => ((appOK tag e.1 e.2.1 ∧ 0 < e.2.1 ∧ 0 < e.2.2 ∧ z.map List.length = some e.2.1) ∧
      (∀ r ∈ rows, r.length = e.2.1) ∧ (∀ r ∈ rows2, r.length = e.2.1) ∧ (rows.length + rows2.length) * e.2.2 ≤ 140737488355328) ∧ c.k (.grow tx e.1 e.2.1 rows2)
  | _, _, _ => False
theorem growK_sl (e sz bs : Nat) (z : List AV) (tx : Tmp) (tag tag2 : Tag) (rows rows2 : List (List AV)) (k : Eff → Prop) : @growK (some (e, sz, bs)) (some z) tx (.sl tag rows) (.sl tag2 rows2) ⟨k⟩ =
    (((appOK tag e sz ∧ 0 < sz ∧ 0 < bs ∧ z.length = sz) ∧ (∀ r ∈ rows, r.length = sz) ∧ (∀ r ∈ rows2, r.length = sz) ∧ (rows.length + rows2.length) * bs ≤ 140737488355328) ∧ k (.grow tx e sz rows2)) := by
  simp only [growK, Option.map_some, Option.some.injEq]
theorem aeff_append (tx : Tmp) (y : Operand) (t : TypeId) : aeff P M ops ⟨d, .call ⟨.builtin .append, #[.tmp tx, y], #[t, t]⟩, ty, pos, after, g⟩ s E =
    @growK (slT P t) (slE (slT P t) P) tx (s.t tx) (dead1 (s.ev y)) ⟨E⟩ := by
  simp only [aeff, growK, ASt.evd]
  cases hx : s.t tx with
  | sl tag rows =>
    cases hy : dead1 (s.ev y) with
    | sl tag2 rows2 =>
      cases hs : slT P t with
      | none => rfl
      | some e => simp only [slE, true_and, and_assoc]
    | _ => rfl
  | _ => rfl
/-- grown -/
def grown (e sz : Nat) (rows2 : List (List AV)) (v : AV) : AV := match v with | .sl tag rows => .sl (appTag tag e sz rows2) (rows ++ rows2) | x => x
theorem grown_sl (e sz : Nat) (tag : Tag) (rows rows2 : List (List AV)) : grown e sz rows2 (.sl tag rows) = .sl (appTag tag e sz rows2) (rows ++ rows2) := rfl
theorem app_grow (d : Option Tmp) (t e sz : Nat) (rows2 : List (List AV)) (s : ASt) : (Eff.grow t e sz rows2).app d s = (killW s t (s.t t)).put d (grown e sz rows2 (s.t t)) := by
  rw [app_grow', kill_eqW]
  rfl
end
end Go.Rw

namespace Go.Rw
theorem range_is1 : ([0] = List.range 1) = True := eq_true (by decide)
theorem range_is2 : ([0, 1] = List.range 2) = True := eq_true (by decide)
theorem range_is3 : ([0, 1, 2] = List.range 3) = True := eq_true (by decide)
theorem range_is4 : ([0, 1, 2, 3] = List.range 4) = True := eq_true (by decide)
theorem range_is5 : ([0, 1, 2, 3, 4] = List.range 5) = True := eq_true (by decide)
theorem range_is6 : ([0, 1, 2, 3, 4, 5] = List.range 6) = True := eq_true (by decide)
theorem range_is7 : ([0, 1, 2, 3, 4, 5, 6] = List.range 7) = True := eq_true (by decide)
theorem range_is8 : ([0, 1, 2, 3, 4, 5, 6, 7] = List.range 8) = True := eq_true (by decide)
theorem range_is9 : ([0, 1, 2, 3, 4, 5, 6, 7, 8] = List.range 9) = True := eq_true (by decide)
theorem range_is10 : ([0, 1, 2, 3, 4, 5, 6, 7, 8, 9] = List.range 10) = True := eq_true (by decide)
theorem range_is11 : ([0, 1, 2, 3, 4, 5, 6, 7, 8, 9, 10] = List.range 11) = True := eq_true (by decide)
theorem range_is12 : ([0, 1, 2, 3, 4, 5, 6, 7, 8, 9, 10, 11] = List.range 12) = True := eq_true (by decide)
attribute [simp] range_is1 range_is2 range_is3 range_is4 range_is5 range_is6 range_is7 range_is8 range_is9 range_is10 range_is11 range_is12
attribute [simp ↓] awp_skip awp_region awp_regionK awp_seqQ awp_condB awp_blockQ awp_loopK awp_exit
attribute [simp ↓] awp_ret seqQ_normal seqQ_ret seqQ_exit blockQ_normal blockQ_ret blockQ_exit roundQ_normal
attribute [simp ↓] roundQ_ret roundQ_exit cutQ_normal cutQ_ret cutQ_exit endQ_normal endQ_ret endH_normal endH_ret endQS_normal endQS_ret endHS_normal endHS_ret feedsB_none
attribute [simp ↓] feedsB_nil feedsB_cons wantB_succ wantB_zero aops_nil aops_cons aops_guard aop_assign_tmp
attribute [simp ↓] aop_assign_const aop_assign_func aop_move_const aop_move_func aop_move_tmp aop_load aop_alloc aop_box
attribute [simp ↓] aop_store aop_binOp aop_pick aop_unOp aop_convert aop_slice aop_fieldAddr aop_field
attribute [simp ↓] aop_indexAddr aop_index aop_build aop_buildSlice aop_extract aop_makeFunc aop_nilCheck aop_call
attribute [simp ↓] aop_append aop_copy aop_makeSlice aop_len aop_max aop_min aloud_append storedB_none storedB_nil storedB_cons asgdB_none asgdB_nil asgdB_cons
attribute [simp] isPtrNil ptrV abuildN keepNil_v keepNil_nil keepNil_no keepNil_full keepNil_live keepNil_ptr keepNil_ea keepNil_sm keepNil_mn keepNil_fn aCellsK stored1 asgd1 bsK_none bsK_one
attribute [simp ↓] aloud_store aloud_copy
attribute [simp] loudCopyK_sm
attribute [simp] loudStoreK_ptr isSl noRef
attribute [simp] storeK_sm storeK_mn storeK_ptr storeK_fn
attribute [simp] killW_ob moveK_ob killW_mn moveK_mn binK_mn appendK_sm appendK_mn loudAppK_sm loudAppK_mn
attribute [simp ↓] aopsE_nil aopsE_zero aopsE_q aopsE_qguard aopsE_r aopsE_rguard aopsE_l aopsE_s aopsE_sguard aloud_call app_val app_hand app_grow app_take aeff_assign_tmp aeff_assign_const
attribute [simp ↓] aeff_move_const aeff_move_func aeff_move_tmp aeff_call aeff_binOp aeff_load aeff_pick aeff_unOp
attribute [simp ↓] aeff_convert aeff_slice aeff_fieldAddr aeff_field aeff_indexAddr aeff_index aeff_build aeff_buildSlice
attribute [simp ↓] aeff_extract aeff_makeFunc aeff_nilCheck aeff_len aeff_append
attribute [simp] force_eq forceO_some forceO_none forceS_eq exitK_eq forceB_true forceB_false forceL_some
attribute [simp] branch_true branch_false lenK_eq callFnK_fn moveK_v moveK_ea moveK_ptr moveK_agg
attribute [simp] moveK_tup moveK_fn moveK_sm moveK_sl loadK_agg loadK_one storeK_sl storeK_tup
attribute [simp] storeK_v storeK_agg storeK_nil binK_none binK_sl binK_v binK_ptr binK_fn
attribute [simp] isNilTest appendK_sl slE_some feeds1 put_mk put_none set_mk ev_tmp
attribute [simp] ev_const ev_func c2a_int c2a_bool c2a_float c2a_string c2a_nil c2a_pointer
attribute [simp] c2a_nilFunc ASt.killAt upd_apply aBinAll aBin aUn_not aIdx aindexAddr
attribute [simp] aslice aBound afieldAddr afield cellsAt aload abuild afill
attribute [simp] overlay aCells abuildSlice rowsOf aConv aLen aIndexVal aMax
attribute [simp] aMin aExtract aNilCheck cellAV Value.oneCell' ARes resAV resAll
attribute [simp] aNum_add aNum_sub aNum_mul aNum_quo aNum_rem tdiv_pos tmod_pos aNum_eql
attribute [simp] aNum_neq aNum_lss aNum_leq aNum_gtr aNum_geq aNum_and aNum_or aNum_xor
attribute [simp] aNum_andNot aStructEq vals leavesEq bne_false' bne_true' effF_eq effO_some effS_some effS_none
attribute [simp] nl_v nl_sl effO_none callFnQ_fn takeK_agg takeK_one loudFnK_fn maskH_nil qs growK_sl grown_sl killW_sl
attribute [simp] killW_v killW_ea killW_ptr killW_agg killW_tup killW_fn killW_sm enterSt enterStH SubH_one WeakO Weak one_apply branch_not undef
end Go.Rw
