/- Parts of the proof: what is used by the law. No condition. -/
import Derived.Test.YtjbbfiagijjdoaaGreatRwL
import Derived.Still
set_option linter.unusedSimpArgs false
set_option linter.unusedVariables false
/- Regions that draw their order: one walk in the text's order serves all. No condition. -/
set_option linter.unusedSimpArgs false
set_option linter.unusedVariables false
namespace Go.Rw

/-- What a quiet operation does to an abstract state. -/
inductive Eff where
  | val (x : AV)
  | hand (t : Nat)
  | grow (t : Nat) (e sz : Nat) (rows : List (List AV))
  | take (b off : Nat) (x : AV)

def Eff.src : Eff → Option Nat
  | .val _ => none
  | .hand t => some t
  | .grow t _ _ _ => some t
  | .take _ _ _ => none
def Eff.cell : Eff → Option (Nat × Nat)
  | .take b off _ => some (b, off)
  | _ => none
/-- what an effect does to the objects -/
def Eff.hOf (e : Eff) (h : Nat → Option (List AV)) : Nat → Option (List AV) := match e with
  | .take b off _ => upd h b ((h b).map fun cs => cs.modify off dead1)
  | _ => h

def Eff.valOf (s : ASt) : Eff → AV
  | .val x => x
  | .hand t => s.t t
  | .grow t e sz rows2 => match s.t t with
    | .sl tag rows => .sl (appTag tag e sz rows2) (rows ++ rows2)
    | x => x
  | .take _ _ x => x

def Eff.app0 (d : Option Tmp) (e : Eff) (s : ASt) : ASt :=
  match e.src with
  | none => s.put d (e.valOf s)
  | some t => (s.kill t).put d (e.valOf s)
def Eff.app (d : Option Tmp) (e : Eff) (s : ASt) : ASt := { e.app0 d s with h := e.hOf s.h }

/-- the objects that are about to be written, or that were not there -/
structure Msk where
  has : Nat → Bool
instance : Membership Nat Msk := ⟨fun m b => m.has b = true⟩
instance (b : Nat) (m : Msk) : Decidable (b ∈ m) := inferInstanceAs (Decidable (m.has b = true))
def Msk.of (l : List Nat) : Msk := ⟨fun b => decide (b ∈ l)⟩
@[simp] theorem Msk.mem_of (b : Nat) (l : List Nat) : b ∈ Msk.of l ↔ b ∈ l := decide_eq_true_iff
/-- the objects that are not there yet -/
def Msk.fresh (h : Nat → Option (List AV)) : Msk := ⟨fun b => (h b).isNone⟩
@[simp] theorem Msk.mem_fresh (b : Nat) (h : Nat → Option (List AV)) : b ∈ Msk.fresh h ↔ h b = none := Option.isNone_iff_eq_none
/-- the objects that are not about to be written -/
def maskH (M : Msk) (h : Nat → Option (List AV)) : Nat → Option (List AV) := fun b => if b ∈ M then none else h b
@[simp] theorem maskH_nil (h : Nat → Option (List AV)) : maskH (Msk.of []) h = h := by funext b; simp [maskH]
theorem maskH_some {M : Msk} {h : Nat → Option (List AV)} {b : Nat} {c : List AV} (hb : maskH M h b = some c) : h b = some c ∧ b ∉ M := by
  unfold maskH at hb
  split at hb
  · simp at hb
  · rename_i h1; exact ⟨hb, h1⟩

def ASt.evd (s : ASt) (x : Operand) : AV := dead1 (s.ev x)

/-- a slice that was built keeps what is known of its room -/
def keepQ (op : Op) (r : AV) : AV := match op with
  | .buildSlice .. => r
  | _ => dead1 r
/-- what a quiet operation does -/
def aeff (P : Program) (M : Msk) (ops : List Oper) (o : Oper) (s : ASt) (K : Eff → Prop) : Prop :=
  match o.op with
  | .move (.tmp t) => if feeds ops o.dst = true then K (.hand t) else K (.val (dead1 (s.t t)))
  | .assign (.tmp t) => K (.hand t)
  | .assign x => K (.val (dead1 (s.ev x)))
  | .store .. | .alloc .. | .box .. => False
  | .load t x => match (if feeds ops o.dst = true then aloadOwn P { s with h := maskH M s.h } t (s.evd x) else none) with
    | some q => K (.take q.1 q.2.1 q.2.2)
    | none => match aload P (maskH M s.h) t (s.evd x) with
      | some r => K (.val (dead1 r))
      | none => False
  | .call c => match c.callee with
    | .value f => match s.evd f with
      | .fn g cap => ∃ x, ASpec P g ((c.args.toList.map fun x => s.evd x) ++ cap) (fun r => dead1 r = x) ∧ K (.val x)
      | _ => False
    | .builtin .append => match c.args.toList, c.argTypes.toList with
      | [.tmp tx, y], [t, t'] => match s.t tx, s.evd y, slT P t with
        | .sl tag rows, .sl _ rows2, some e => (t' = t ∧ appOK tag e.1 e.2.1 ∧ 0 < e.2.1 ∧ 0 < e.2.2 ∧ (zT P e.1).map List.length = some e.2.1) ∧
            (∀ r ∈ rows, r.length = e.2.1) ∧ (∀ r ∈ rows2, r.length = e.2.1) ∧ (rows.length + rows2.length) * e.2.2 ≤ 140737488355328 ∧ K (.grow tx e.1 e.2.1 rows2)
        | _, _, _ => False
      | _, _ => False
    | .builtin b => match aBuiltin P s.evd b c.args.toList c.argTypes.toList with
      | some r => K (.val (dead1 r))
      | none => False
    | _ => False
  | op => match aval P s.evd (maskH M s.h) op with
    | some r => K (.val (keepQ op r))
    | none => False

/-- may a value of this type be a slice? -/
def mayTake (P : Program) (t : TypeId) : Bool := match vT P t with | some (_, true) => false | _ => true
/-- does it take the right to write out of an object? -/
def isTake (P : Program) (ops : List Oper) (o : Oper) : Bool :=
  match o.op with
  | .load t _ => feeds ops o.dst && mayTake P t
  | _ => false

/-- where a quiet operation takes the right to write from -/
def srcOf (ops : List Oper) (o : Oper) : Option Tmp :=
  match o.op with
  | .move (.tmp t) => if feeds ops o.dst = true then some t else none
  | .assign (.tmp t) => some t
  | .call c => match c.callee with
    | .builtin .append => match c.args.toList with
      | .tmp t :: _ => some t
      | _ => none
    | _ => none
  | _ => none

theorem aval_congr {P : Program} {ev ev' : Operand → AV} {h : Nat → Option (List AV)} (op : Op) (he : ∀ x ∈ op.operands, ev x = ev' x) : aval P ev h op = aval P ev' h op := by
  have pairs : ∀ ps : Array (Nat × Operand), (∀ x ∈ (ps.toList.map (·.2)).toArray, ev x = ev' x) → (ps.toList.map fun p => (p.1, ev p.2)) = (ps.toList.map fun p => (p.1, ev' p.2)) := fun ps hp =>
    List.map_congr_left fun p hm => by rw [hp p.2 (by simp; exact ⟨p.1, by simpa using hm⟩)]
  cases op <;> simp only [aval] <;> simp only [Op.operands] at he
  case move x => rw [he x (by simp)]
  case assign x => rw [he x (by simp)]
  case pick c x y => rw [he c (by simp), he x (by simp), he y (by simp)]
  case load t x => rw [he x (by simp)]
  case binOp op t x y yt => rw [he x (by simp), he y (by simp)]
  case unOp op t x => rw [he x (by simp)]
  case convert s d x => rw [he x (by simp)]
  case slice t x lo hi mx =>
    cases mx with
    | some m => rfl
    | none =>
      simp only [aval]
      rw [he x (by simp)]
      have h1 : lo.map ev = lo.map ev' := by cases lo with
        | none => rfl
        | some l => simp [he l (by simp)]
      have h2 : hi.map ev = hi.map ev' := by cases hi with
        | none => rfl
        | some l => simp [he l (by simp)]
      rw [h1, h2]
  case fieldAddr t x f => rw [he x (by simp)]
  case field t x f => rw [he x (by simp)]
  case indexAddr t x i => rw [he x (by simp), he i (by simp)]
  case index t x i => rw [he x (by simp), he i (by simp)]
  case build t ps => rw [pairs ps he]
  case buildSlice t n ps => rw [pairs ps he]
  case extract x i => rw [he x (by simp)]
  case makeFunc fn first cap =>
    cases fn with
    | func f =>
      simp only [aval]
      have : (cap.toList.map fun x => dead1 (ev x)) = cap.toList.map fun x => dead1 (ev' x) := List.map_congr_left fun x hx => by rw [he x (by simp; exact .inr (by simpa using hx))]
      rw [this]
    | _ => rfl
  case nilCheck x => rw [he x (by simp)]
  case call c =>
    cases hc : c.callee with
    | builtin b =>
      simp only
      have hm : ∀ x ∈ c.args.toList, ev x = ev' x := fun x hx => he x (by simp [Call.operands, hc]; simpa using hx)
      unfold aBuiltin
      split
      · rename_i x t h1 h2; rw [hm x (by rw [h1]; simp)]
      · rename_i x y h1; rw [hm x (by rw [h1]; simp), hm y (by rw [h1]; simp)]
      · rename_i x y h1; rw [hm x (by rw [h1]; simp), hm y (by rw [h1]; simp)]
      · rfl
    | _ => rfl

theorem aval_h {P : Program} {ev : Operand → AV} {h h' : Nat → Option (List AV)} (op : Op) (hl : ∀ t a, aload P h t a = aload P h' t a) : aval P ev h op = aval P ev h' op := by
  cases op with
  | load t x => exact hl _ _
  | makeFunc fn f c => cases fn <;> rfl
  | slice t x lo hi mx => cases mx <;> rfl
  | _ => rfl

theorem aeff_mono {P : Program} {M : Msk} {ops : List Oper} {o : Oper} {s : ASt} {K K' : Eff → Prop} (h : ∀ e, K e → K' e) (hh : aeff P M ops o s K) : aeff P M ops o s K' := by
  unfold aeff at *
  split at hh
  · split at hh
    · rename_i hf; rw [if_pos hf]; exact h _ hh
    · rename_i hf; rw [if_neg hf]; exact h _ hh
  · exact h _ hh
  · exact h _ hh
  all_goals first | exact hh.elim | skip
  · split at hh
    · exact h _ hh
    · split at hh
      · exact h _ hh
      · exact hh.elim
  · split at hh
    · split at hh
      · obtain ⟨x, h1, h2⟩ := hh; exact ⟨x, h1, h _ h2⟩
      · exact hh.elim
    · split at hh
      · split at hh
        · obtain ⟨h1, h2, h3, h4, h5⟩ := hh; exact ⟨h1, h2, h3, h4, h _ h5⟩
        · exact hh.elim
      · exact hh.elim
    · split at hh
      · exact h _ hh
      · exact hh.elim
    · exact hh.elim
  · split at hh
    · exact h _ hh
    · exact hh.elim

/-! ### what an effect leaves alone -/

theorem put_t (s : ASt) (d : Option Tmp) (x : AV) (k : Nat) : (s.put d x).t k = if d = some k ∧ k < s.n then x else s.t k := by
  cases d with
  | none => simp [ASt.put]
  | some d =>
    simp only [ASt.put, ASt.set]
    by_cases hd : d < s.n
    · simp only [hd, if_true, upd]
      by_cases hk : k = d
      · subst hk; simp [hd]
      · have : ¬ d = k := fun h => hk h.symm
        simp [hk, this]
    · simp only [hd, if_false]
      by_cases hk : d = k
      · subst hk; simp [hd]
      · simp [hk]

@[simp] theorem put_n (s : ASt) (d : Option Tmp) (x : AV) : (s.put d x).n = s.n := by
  cases d with
  | none => rfl
  | some d => simp only [ASt.put, ASt.set]; split <;> rfl

@[simp] theorem put_h (s : ASt) (d : Option Tmp) (x : AV) : (s.put d x).h = s.h := by
  cases d with
  | none => rfl
  | some d => simp only [ASt.put, ASt.set]; split <;> rfl

theorem kill_eq (s : ASt) (t : Nat) : s.kill t = s.put (some t) (dead1 (s.t t)) := rfl

theorem app_n (d : Option Tmp) (e : Eff) (s : ASt) : (e.app d s).n = s.n := by
  unfold Eff.app Eff.app0; split <;> simp [kill_eq]

theorem app_h (d : Option Tmp) (e : Eff) (s : ASt) : (e.app d s).h = e.hOf s.h := rfl
theorem hOf_none {e : Eff} (h : e.cell = none) (H : Nat → Option (List AV)) : e.hOf H = H := by
  cases e <;> first | rfl | simp [Eff.cell] at h

theorem app_t (d : Option Tmp) (e : Eff) (s : ASt) (k : Nat) :
    (e.app d s).t k = if d = some k ∧ k < s.n then e.valOf s else if e.src = some k ∧ k < s.n then dead1 (s.t k) else s.t k := by
  show (e.app0 d s).t k = _
  unfold Eff.app0
  split
  · rename_i h
    rw [put_t, h]
    simp
  · rename_i t h
    rw [put_t, kill_eq, put_n, put_t, h]
    by_cases h1 : d = some k ∧ k < s.n
    · simp [h1]
    · simp only [h1, if_false]
      by_cases h2 : some t = some k ∧ k < s.n
      · obtain ⟨e1, e2⟩ := h2
        injection e1 with e1
        subst e1
        simp [e2]
      · have h3 : ¬ (some t = some k ∧ k < s.n) := h2
        simp only [h3, if_false]

theorem ASt.ext' {s s' : ASt} (h1 : s.n = s'.n) (h2 : s.t = s'.t) (h3 : s.h = s'.h) : s = s' := by
  cases s; cases s'; simp_all

theorem app_eq0 {d : Option Tmp} {e : Eff} {s : ASt} (hc : e.cell = none) : e.app d s = e.app0 d s :=
  ASt.ext' rfl rfl (by rw [app_h, hOf_none hc]; unfold Eff.app0; split <;> simp [kill_eq])
theorem app_val' (d : Option Tmp) (x : AV) (s : ASt) : (Eff.val x).app d s = s.put d x := app_eq0 rfl
theorem app_hand' (d : Option Tmp) (t : Nat) (s : ASt) : (Eff.hand t).app d s = (s.kill t).put d (s.t t) := app_eq0 rfl
theorem app_grow' (d : Option Tmp) (t e sz : Nat) (rows : List (List AV)) (s : ASt) : (Eff.grow t e sz rows).app d s = (s.kill t).put d ((Eff.grow t e sz rows).valOf s) := app_eq0 rfl

theorem app_dead (d : Option Tmp) (e : Eff) (s : ASt) (k : Nat) (h : d ≠ some k) : dead1 ((e.app d s).t k) = dead1 (s.t k) := by
  rw [app_t]
  simp only [h, false_and, if_false]
  split <;> simp

theorem app_same (d : Option Tmp) (e : Eff) (s : ASt) (k : Nat) (h : d ≠ some k) (h2 : e.src ≠ some k) : (e.app d s).t k = s.t k := by
  rw [app_t]; simp [h, h2]

theorem evd_app (d : Option Tmp) (e : Eff) (s : ASt) (x : Operand) (h : ∀ t, x = .tmp t → d ≠ some t) : (e.app d s).evd x = s.evd x := by
  cases x with
  | tmp t => exact app_dead d e s t (h t rfl)
  | _ => rfl

theorem valOf_app (d : Option Tmp) (e e' : Eff) (s : ASt) (h : ∀ t, e'.src = some t → d ≠ some t ∧ e.src ≠ some t) (hc : e.cell = none ∨ e'.cell = none) : e'.valOf (e.app d s) = e'.valOf s := by
  cases e' with
  | take b off x => rfl
  | val x => rfl
  | hand t => exact app_same d e s t (h t rfl).1 (h t rfl).2
  | grow t e1 sz rows => simp only [Eff.valOf]; rw [app_same d e s t (h t rfl).1 (h t rfl).2]

theorem app_comm (d d' : Option Tmp) (e e' : Eff) (s : ASt) (hd : ∀ k, d = some k → d' ≠ some k) (h1 : ∀ t, e'.src = some t → d ≠ some t ∧ e.src ≠ some t) (h2 : ∀ t, e.src = some t → d' ≠ some t ∧ e'.src ≠ some t) (hc : e.cell = none ∨ e'.cell = none) :
    e'.app d' (e.app d s) = e.app d (e'.app d' s) := by
  refine ASt.ext' (by rw [app_n, app_n, app_n, app_n]) ?_ (by
    rw [app_h, app_h, app_h, app_h]
    rcases hc with hc | hc
    · rw [hOf_none hc, hOf_none hc]
    · rw [hOf_none hc, hOf_none hc])
  funext k
  rw [app_t d' e', app_t d e (e'.app d' s), valOf_app d e e' s h1 hc, valOf_app d' e' e s h2 hc.symm, app_n, app_n, app_t d e s, app_t d' e' s]
  by_cases q1 : d' = some k ∧ k < s.n
  · have q2 : ¬ (d = some k ∧ k < s.n) := fun h => hd k h.1 q1.1
    have q3 : ¬ (e.src = some k ∧ k < s.n) := fun h => (h2 k h.1).1 q1.1
    simp only [if_pos q1, if_neg q2, if_neg q3]
  · by_cases q2 : d = some k ∧ k < s.n
    · have q3 : ¬ (e'.src = some k ∧ k < s.n) := fun h => (h1 k h.1).1 q2.1
      simp only [if_neg q1, if_pos q2, if_neg q3]
    · simp only [if_neg q1, if_neg q2]
      by_cases q3 : e'.src = some k ∧ k < s.n
      · have q4 : ¬ (e.src = some k ∧ k < s.n) := fun h => (h2 k h.1).2 q3.1
        simp only [if_pos q3, if_neg q4]
      · by_cases q4 : e.src = some k ∧ k < s.n
        · simp only [if_neg q3, if_pos q4]
        · simp only [if_neg q3, if_neg q4]

theorem aeff_src {P : Program} {M : Msk} {ops : List Oper} {o : Oper} {s : ASt} {e : Eff} (h : aeff P M ops o s (· = e)) : e.src = srcOf ops o ∧ (e.cell ≠ none → isTake P ops o = true) := by
  obtain ⟨dst, op, type, pos, after, guard⟩ := o
  have tr : ∀ {x : AV}, Eff.val x = e → e.src = none ∧ e.cell = none := fun h => by subst h; exact ⟨rfl, rfl⟩
  cases op with
  | move x =>
    cases x with
    | tmp t =>
      simp only [aeff] at h
      simp only [srcOf]
      split at h
      · rename_i hf; rw [if_pos hf, ← h]; exact ⟨rfl, fun h => absurd rfl h⟩
      · rename_i hf; rw [if_neg hf, ← h]; exact ⟨rfl, fun h => absurd rfl h⟩
    | _ =>
      simp only [aeff] at h
      split at h
      · rw [← h]; exact ⟨rfl, fun h => absurd rfl h⟩
      · exact h.elim
  | call c =>
    simp only [aeff] at h
    simp only [srcOf]
    cases hc : c.callee with
    | value f =>
      simp only [hc] at h
      split at h
      · obtain ⟨x, _, rfl⟩ := h; exact ⟨rfl, fun h => absurd rfl h⟩
      · exact h.elim
    | invoke r m => simp only [hc] at h
    | builtin b =>
      cases b with
      | append =>
        simp only [hc] at h
        split at h
        · rename_i tx y t t' ha _
          split at h
          · obtain ⟨_, _, _, _, rfl⟩ := h; simp only [ha]; exact ⟨rfl, fun h => absurd rfl h⟩
          · exact h.elim
        · exact h.elim
      | _ =>
        simp only [hc] at h
        split at h
        · rw [← h]; exact ⟨rfl, fun h => absurd rfl h⟩
        · exact h.elim
  | assign x =>
    cases x with
    | tmp t => simp only [aeff] at h; rw [← h]; exact ⟨rfl, fun h => absurd rfl h⟩
    | _ => simp only [aeff] at h; rw [← h]; exact ⟨rfl, fun h => absurd rfl h⟩
  | load t x =>
    simp only [aeff] at h
    split at h
    · rename_i q hq
      rw [← h]
      refine ⟨rfl, fun _ => ?_⟩
      simp only [isTake]
      split at hq
      · rename_i hf
        rw [hf, Bool.true_and]
        unfold mayTake
        unfold aloadOwn at hq
        split at hq
        · rename_i hv; rw [hv]
        · simp at hq
      · simp at hq
    · split at h
      · rw [← h]; exact ⟨rfl, fun h => absurd rfl h⟩
      · exact h.elim
  | store t x y => exact h.elim
  | alloc t => exact h.elim
  | box t x => exact h.elim
  | _ =>
    simp only [aeff] at h
    split at h
    · rw [← h]; exact ⟨rfl, fun h => absurd rfl h⟩
    · exact h.elim

/-- in states that say the same of what an operation looks at, it does the same -/
theorem aeff_congr {P : Program} {M : Msk} {ops : List Oper} {o : Oper} {s s' : ASt} {K : Eff → Prop} (hev : ∀ x ∈ o.op.operands, s'.evd x = s.evd x) (hsl : ∀ t, srcOf ops o = some t → s'.t t = s.t t)
    (hld : ∀ t a, aload P (maskH M s'.h) t a = aload P (maskH M s.h) t a) (hown : isTake P ops o = true → ∀ t a, aloadOwn P { s' with h := maskH M s'.h } t a = aloadOwn P { s with h := maskH M s.h } t a) :
    aeff P M ops o s' K ↔ aeff P M ops o s K := by
  have hval : ∀ op, op = o.op → aval P s'.evd (maskH M s'.h) op = aval P s.evd (maskH M s.h) op := fun op hop => by
    rw [aval_h op hld]; exact aval_congr op (by rw [hop]; exact hev)
  obtain ⟨dst, op, type, pos, after, guard⟩ := o
  simp only at hev hval
  cases op with
  | move x =>
    cases x with
    | tmp t =>
      simp only [aeff]
      have : dead1 (s'.t t) = dead1 (s.t t) := hev (.tmp t) (by simp [Op.operands])
      rw [this]
    | _ => simp only [aeff]; rw [hval _ rfl]
  | load t x =>
    simp only [aeff]
    rw [hev x (by simp [Op.operands]), hld]
    by_cases hf : feeds ops dst = true
    · simp only [hf, if_true]
      by_cases hm : mayTake P t = true
      · rw [hown (by simp [isTake, hf, hm])]
      · have e1 : ∀ h a, aloadOwn P { s with h := h } t a = none := fun h a => by
          unfold mayTake at hm
          unfold aloadOwn
          cases hv : vT P t with
          | none => rfl
          | some n => obtain ⟨n1, n2⟩ := n; cases n2 <;> simp_all
        have e2 : ∀ h a, aloadOwn P { s' with h := h } t a = none := fun h a => by
          unfold mayTake at hm
          unfold aloadOwn
          cases hv : vT P t with
          | none => rfl
          | some n => obtain ⟨n1, n2⟩ := n; cases n2 <;> simp_all
        rw [e1, e2]
    · simp only [hf, Bool.false_eq_true, if_false]
  | call c =>
    simp only [aeff]
    cases hc : c.callee with
    | value f =>
      simp only
      rw [hev f (by simp [Op.operands, Call.operands, hc])]
      have : (c.args.toList.map fun x => s'.evd x) = c.args.toList.map fun x => s.evd x := List.map_congr_left fun x hx => hev x (by simp [Op.operands, Call.operands, hc]; exact .inr (by simpa using hx))
      rw [this]
    | invoke r m => rfl
    | builtin b =>
      cases b with
      | append =>
        simp only
        cases ha : c.args.toList with
        | nil => rfl
        | cons x rest =>
          cases x with
          | tmp tx =>
            cases rest with
            | nil => rfl
            | cons y rest =>
              cases rest with
              | nil =>
                cases ht : c.argTypes.toList with
                | nil => rfl
                | cons t ts =>
                  cases ts with
                  | nil => rfl
                  | cons t' ts =>
                    cases ts with
                    | nil =>
                      have h1 : s'.t tx = s.t tx := hsl tx (by simp [srcOf, hc, ha])
                      have h2 : s'.evd y = s.evd y := hev y (by simp [Op.operands, Call.operands, hc]; rw [← Array.mem_toList_iff, ha]; simp)
                      simp only [h1, h2]
                    | cons t'' ts => rfl
              | cons z rest => rfl
          | _ => rfl
      | _ =>
        have := hval (.call c) rfl
        simp only [aval, hc] at this
        simp only [this]
  | assign x =>
    cases x with
    | tmp t => exact Iff.rfl
    | _ => exact Iff.rfl
  | store t x y => exact Iff.rfl
  | alloc t => exact Iff.rfl
  | box t x => exact Iff.rfl
  | _ => simp only [aeff]; rw [hval _ rfl]

theorem cellsAt_modify (n : Nat) (agg : Bool) (cells : List AV) (k off : Nat) : cellsAt n agg (cells.modify k dead1) off = cellsAt n agg cells off := by
  have key : (cells.modify k dead1).map dead1 = cells.map dead1 := by
    apply List.ext_getElem?
    intro j
    simp only [List.getElem?_map, List.getElem?_modify]
    cases cells[j]? with
    | none => rfl
    | some z =>
      simp only [Option.map_eq_map, Option.map_some, Option.some.injEq]
      split <;> simp
  unfold cellsAt
  cases agg with
  | true =>
    simp only [if_true, List.length_modify]
    rw [List.map_take, List.map_drop, key, List.map_take, List.map_drop]
  | false =>
    simp only [Bool.false_eq_true, if_false]
    rw [← List.getElem?_map, key, List.getElem?_map]

theorem aload_hOf (P : Program) (M : Msk) (e : Eff) (h : Nat → Option (List AV)) (t : TypeId) (a : AV) : aload P (maskH M (e.hOf h)) t a = aload P (maskH M h) t a := by
  cases e with
  | take b off x =>
    unfold aload
    cases vT P t with
    | none => rfl
    | some n =>
      simp only
      cases a with
      | ptr b' off' =>
        simp only [maskH, Eff.hOf, upd]
        by_cases hb : b' ∈ M
        · simp [hb]
        · simp only [hb, if_false]
          by_cases hbb : b' = b
          · subst hbb
            simp only [if_true]
            cases h b' with
            | none => rfl
            | some cells => exact cellsAt_modify _ _ _ _ _
          · simp only [hbb, if_false]
      | _ => rfl
  | _ => rfl

/-- An operation apart from another one does the same behind it. -/
theorem aeff_app {P : Program} {M : Msk} {ops : List Oper} {o : Oper} {s : ASt} {d : Option Tmp} {e : Eff} {K : Eff → Prop} (hread : ∀ t, .tmp t ∈ o.op.operands → d ≠ some t)
    (hsrc : ∀ t, srcOf ops o = some t → e.src ≠ some t) (hsr : ∀ t, srcOf ops o = some t → .tmp t ∈ o.op.operands) (hc : e.cell = none ∨ isTake P ops o = false) : aeff P M ops o (e.app d s) K ↔ aeff P M ops o s K := by
  refine aeff_congr (fun x hx => evd_app d e s x fun t ht => hread t (by rw [← ht]; exact hx)) (fun t ht => app_same d e s t (hread t (hsr t ht)) (hsrc t ht)) (fun t a => by rw [app_h]; exact aload_hOf _ _ _ _ _ _) (fun hT => ?_)
  rcases hc with hc | hc
  · intro t a
    unfold aloadOwn
    simp only [app_h, hOf_none hc]
  · rw [hc] at hT; simp at hT

theorem awanted_app {ops : Array Oper} {o : Oper} {s : ASt} {d : Option Tmp} {e : Eff} (h : ∀ t, t ∈ o.looksAt ops → d ≠ some t) : awanted ops.toList (e.app d s) o = awanted ops.toList s o := by
  unfold awanted
  cases hg : o.guard with
  | none => rfl
  | some gw =>
    obtain ⟨j, want⟩ := gw
    simp only [Array.getElem?_toList]
    cases hd : (ops[j]?).bind (·.dst) with
    | none => rfl
    | some k =>
      have hk : d ≠ some k := h k (by simp [Oper.looksAt, hg, hd])
      simp only
      rw [app_t]
      simp only [hk, false_and, if_false]
      by_cases hc : e.src = some k ∧ k < s.n
      · simp only [if_pos hc]
        cases s.t k with
        | ob m g o => cases m <;> rfl
        | _ => rfl
      · simp only [if_neg hc]

/-! ### the region -/

/-- the operation's effect, carried out or not -/
def QY (P : Program) (M : Msk) (ops : Array Oper) (o : Oper) (e : Eff) (s : ASt) : Prop :=
  (awanted ops.toList s o = true ∧ aeff P M ops.toList o s (· = e)) ∨ (awanted ops.toList s o = false ∧ e = .val (.v undef))

theorem QY_src {P : Program} {M : Msk} {ops : Array Oper} {o : Oper} {e : Eff} {s : ASt} (h : QY P M ops o e s) : ∀ t, e.src = some t → srcOf ops.toList o = some t := by
  intro t ht
  rcases h with ⟨_, h⟩ | ⟨_, rfl⟩
  · rw [← (aeff_src h).1]; exact ht
  · simp [Eff.src] at ht
theorem QY_cell {P : Program} {M : Msk} {ops : Array Oper} {o : Oper} {e : Eff} {s : ASt} (h : QY P M ops o e s) : e.cell ≠ none → isTake P ops.toList o = true := by
  intro ht
  rcases h with ⟨_, h⟩ | ⟨_, rfl⟩
  · exact (aeff_src h).2 ht
  · exact absurd rfl ht
theorem QY_mask {P : Program} {M : Msk} {ops : Array Oper} {o : Oper} {s : ASt} {b off : Nat} {z : AV} (h : QY P M ops o (.take b off z) s) : b ∉ M := by
  rcases h with ⟨_, h⟩ | ⟨_, h⟩
  · obtain ⟨dst, op, type, pos, after, guard⟩ := o
    have ht := (aeff_src h).2 (by simp [Eff.cell])
    cases op with
    | load t x =>
      simp only [aeff] at h
      split at h
      · rename_i q hq
        injection h with h1 h2 h3
        split at hq
        · unfold aloadOwn at hq
          split at hq
          · split at hq
            · rename_i b' off' _
              split at hq
              · rename_i cells hcells
                split at hq
                · split at hq
                  · obtain rfl := Option.some.inj hq
                    simp only at h1 h2
                    subst h1
                    exact (maskH_some hcells).2
                  · simp at hq
                · simp at hq
              · simp at hq
            · simp at hq
          · simp at hq
        · simp at hq
      · split at h
        · simp at h
        · exact h.elim
    | _ => simp [isTake] at ht
  · simp at h

/-- operations that do not touch each other's slots, and do not take the right to write from one slot -/
def apart2 (P : Program) (ops : Array Oper) (x y : Oper) : Bool :=
  x.apart ops y && (match srcOf ops.toList x, srcOf ops.toList y with
    | some a, some b => a != b
    | _, _ => true) && !(isTake P ops.toList x && isTake P ops.toList y)

theorem apart2_take {P : Program} {ops : Array Oper} {x y : Oper} (h : apart2 P ops x y = true) : isTake P ops.toList x = false ∨ isTake P ops.toList y = false := by
  simp only [apart2, Bool.and_eq_true, Bool.not_eq_true'] at h
  have := h.2
  cases hx : isTake P ops.toList x
  · exact .inl rfl
  · rw [hx] at this; simp at this; exact .inr this

theorem src_operand {ops : List Oper} {o : Oper} {t : Tmp} (h : srcOf ops o = some t) : Operand.tmp t ∈ o.op.operands := by
  obtain ⟨dst, op, type, pos, after, guard⟩ := o
  cases op with
  | move x =>
    cases x with
    | tmp u =>
      simp only [srcOf] at h
      split at h
      · obtain rfl := Option.some.inj h; simp [Op.operands]
      · simp at h
    | _ => simp [srcOf] at h
  | assign x =>
    cases x with
    | tmp u => simp only [srcOf, Option.some.injEq] at h; subst h; simp [Op.operands]
    | _ => simp [srcOf] at h
  | call c =>
    simp only [srcOf] at h
    split at h
    · rename_i hc
      split at h
      · rename_i u rest ha
        obtain rfl := Option.some.inj h
        have : (Operand.tmp u) ∈ c.args := by rw [← Array.mem_toList_iff, ha]; simp
        simp only [Op.operands, Call.operands, hc]
        simpa using this
      · simp at h
    · simp at h
  | _ => simp [srcOf] at h

theorem src_reads {ops : Array Oper} {o : Oper} {t : Tmp} (h : srcOf ops.toList o = some t) : t ∈ o.looksAt ops :=
  List.mem_append_left _ (List.mem_filterMap.2 ⟨.tmp t, by simpa using src_operand h, rfl⟩)

theorem QY_app {P : Program} {M : Msk} {ops : Array Oper} {oi oj : Oper} {ei ej : Eff} {s : ASt} (hap : apart2 P ops oi oj = true) (hi : ∀ t, ei.src = some t → srcOf ops.toList oi = some t) (hic : ei.cell ≠ none → isTake P ops.toList oi = true) :
    QY P M ops oj ej (ei.app oi.dst s) ↔ QY P M ops oj ej s := by
  have htk := apart2_take hap
  simp only [apart2, Bool.and_eq_true] at hap
  obtain ⟨h1, h2, h3⟩ := Oper.apart_spec hap.1.1
  have hread : ∀ t, .tmp t ∈ oj.op.operands → oi.dst ≠ some t := fun t ht hd => h1 t hd (List.mem_append_left _ (List.mem_filterMap.2 ⟨.tmp t, by simpa using ht, rfl⟩))
  have hsrc : ∀ t, srcOf ops.toList oj = some t → ei.src ≠ some t := fun t ht hs => by
    have := hi t hs
    rw [ht, this] at hap
    simp at hap
  have hc : ei.cell = none ∨ isTake P ops.toList oj = false := by
    cases hq : ei.cell with
    | none => exact .inl rfl
    | some q =>
      have := hic (by rw [hq]; simp)
      rcases htk with h | h
      · rw [this] at h; simp at h
      · exact .inr h
  unfold QY
  rw [awanted_app fun t ht hd => h1 t hd ht, aeff_app hread hsrc (fun t => src_operand) hc]

theorem QY_comm {P : Program} {M Mi : Msk} {ops : Array Oper} {oi oj : Oper} {ei ej : Eff} {s s' : ASt} (hap : apart2 P ops oi oj = true) (hi : QY P Mi ops oi ei s') (hj : QY P M ops oj ej s) :
    ∀ q, ej.app oj.dst (ei.app oi.dst q) = ei.app oi.dst (ej.app oj.dst q) := by
  intro q
  have htk := apart2_take hap
  simp only [apart2, Bool.and_eq_true] at hap
  obtain ⟨h1, h2, h3⟩ := Oper.apart_spec hap.1.1
  have si := QY_src hi
  have sj := QY_src hj
  refine app_comm _ _ _ _ q h2 (fun t ht => ⟨fun hd => h1 t hd (src_reads (sj t ht)), fun hs => ?_⟩) (fun t ht => ⟨fun hd => h3 t hd (src_reads (si t ht)), fun hs => ?_⟩) ?_
  · have a1 := si t hs; have a2 := sj t ht
    rw [a1, a2] at hap; simp at hap
  · have a1 := si t ht; have a2 := sj t hs
    rw [a1, a2] at hap; simp at hap
  · cases hq : ei.cell with
    | none => exact .inl rfl
    | some q =>
      cases hq2 : ej.cell with
      | none => exact .inr rfl
      | some q2 =>
        have a1 := QY_cell hi (by rw [hq]; simp)
        have a2 := QY_cell hj (by rw [hq2]; simp)
        rcases htk with h | h
        · rw [a1] at h; simp at h
        · rw [a2] at h; simp at h

theorem apart_symm {ops : Array Oper} {x y : Oper} (h : x.apart ops y = true) : y.apart ops x = true := by
  obtain ⟨h1, h2, h3⟩ := Oper.apart_spec h
  simp only [Oper.apart, Bool.and_eq_true]
  refine ⟨?_, ?_⟩
  · cases hy : y.dst with
    | none => rfl
    | some d =>
      have a1 := h3 d hy
      have a2 : x.dst ≠ some d := fun hx => h2 d hx hy
      simp [a1, a2]
  · cases hx : x.dst with
    | none => rfl
    | some d =>
      have a1 := h1 d hx
      simp [a1]

theorem apart2_symm {P : Program} {ops : Array Oper} {x y : Oper} (h : apart2 P ops x y = true) : apart2 P ops y x = true := by
  simp only [apart2, Bool.and_eq_true] at *
  refine ⟨⟨apart_symm h.1.1, ?_⟩, ?_⟩
  · have h3 := h.1.2
    cases h1 : srcOf ops.toList x with
    | none => cases srcOf ops.toList y <;> rfl
    | some a =>
      cases h2 : srcOf ops.toList y with
      | none => rfl
      | some b =>
        rw [h1, h2] at h3
        simp only [bne_iff_ne, ne_eq] at h3 ⊢
        exact fun e => h3 e.symm
  · rw [Bool.and_comm]; exact h.2

/-- how an operation is met: q: it only yields a value; r: so too, and what it reads may be written behind it; l: it writes objects, and its place in the order is free; s: nothing else is ready -/
inductive Md where
  | q
  | l
  | s
  | r
deriving DecidableEq
/-- what a quiet operation may not read -/
def maskOf (m : Md) (M : Msk) : Msk := match m with
  | .r => Msk.of []
  | _ => M
def isQ (m : Md) : Bool := match m with
  | .q | .r => true
  | _ => false

def mdAt (md : List Md) (i : Nat) : Md := (md[i]?).getD .s

/-- a call that writes objects of M alone, or an append to a slice whose object is one of M -/
def aloud (P : Program) (M : Msk) (o : Oper) (s : ASt) (K : ASt → Prop) : Prop :=
  match o.op with
  | .call c => match c.callee with
    | .value f => match s.evd f with
      | .fn g cap => ∃ h R, (∀ b, b ∉ M → h b = none) ∧ SubH h s.h ∧ MSpec P g ((c.args.toList.map fun x => s.evd x) ++ cap) h R ∧
          ∀ r h', R r h' → (∀ b c, h' b = some c → h b = none → s.h b = none) → K ({ s with h := mergeH s.h h h' }.put o.dst r)
      | _ => False
    | .builtin .append => match c.args.toList, c.argTypes.toList with
      | [.tmp tx, y], [t, t'] => match s.evd (.tmp tx), s.evd y, slT P t with
        | .sm b off n cc, .sl _ rows2, some e => (t' = t ∧ off = 0 ∧ 0 < e.2.1 ∧ 0 < e.2.2 ∧ (zT P e.1).map List.length = some e.2.1) ∧
            (∀ r ∈ rows2, r.length = e.2.1) ∧ (n + rows2.length) * e.2.2 ≤ 140737488355328 ∧ b ∈ M ∧
            (match s.h b with | some cells => cells.length = cc * e.2.1 ∧ growSm s o.dst K b n e.2.1 cells rows2 | none => False)
        | .mn, .sl _ rows2, some e => (t' = t ∧ 0 < e.2.1 ∧ 0 < e.2.2 ∧ (zT P e.1).map List.length = some e.2.1) ∧
            (∀ r ∈ rows2, r.length = e.2.1) ∧ rows2.length * e.2.2 ≤ 140737488355328 ∧ growMn s o.dst K e.2.1 rows2
        | _, _, _ => False
      | _, _ => False
    | .builtin .copy => match c.args.toList, c.argTypes.toList with
      | [x, y], [t, _] => match s.evd x, s.evd y, slT P t with
        | .sm b off n _, .sm b2 off2 n2 _, some e => b ∈ M ∧ b2 ∈ M ∧ (match s.h b, s.h b2 with
            | some cells, some cells2 => off + n * e.2.1 ≤ cells.length ∧ off2 + n2 * e.2.1 ≤ cells2.length ∧ (∀ x ∈ (cells2.drop off2).take (min n2 n * e.2.1), cellAV x = true) ∧
                K ({ s with h := upd s.h b (some (overlay cells off (((cells2.drop off2).take (min n2 n * e.2.1)).map dead1))) }.put o.dst (.v (.int .i64 (min n2 n : Nat))))
            | _, _ => False)
        | _, _, _ => False
      | _, _ => False
    | _ => False
  | .store t x y => match s.evd x, vT P t with
    | .ptr b off, some n => o.dst = none ∧ (isSl (s.evd y) = false ∧ noRef (s.evd y) = true) ∧ b ∈ M ∧ (match s.h b, aCellsK (s.evd y) with
      | some cells, some cs => cs.length = n.1 ∧ off + cs.length ≤ cells.length ∧ K { s with h := upd s.h b (some (overlay cells off cs)) }
      | _, _ => False)
    | _, _ => False
  | .alloc e => match zT P e with
    | some z => ∀ b, s.h b = none → K ({ s with h := upd s.h b (some (z.map nl)) }.put o.dst (.ptr b 0))
    | none => False
  | _ => False

theorem growSm_mono {s : ASt} {d : Option Tmp} {K K' : ASt → Prop} (h : ∀ s, K s → K' s) {b n sz : Nat} {cells : List AV} {rows2 : List (List AV)} (hh : growSm s d K b n sz cells rows2) : growSm s d K' b n sz cells rows2 :=
  fun b' c' spare h1 h2 h3 => h _ (hh b' c' spare h1 h2 h3)
theorem growMn_mono {s : ASt} {d : Option Tmp} {K K' : ASt → Prop} (h : ∀ s, K s → K' s) {sz : Nat} {rows2 : List (List AV)} (hh : growMn s d K sz rows2) : growMn s d K' sz rows2 :=
  ⟨fun he => h _ (hh.1 he), fun hne b' c' spare h1 h2 h3 => h _ (hh.2 hne b' c' spare h1 h2 h3)⟩

theorem aloud_mono {P : Program} {M : Msk} {o : Oper} {s : ASt} {K K' : ASt → Prop} (h : ∀ s, K s → K' s) (hh : aloud P M o s K) : aloud P M o s K' := by
  unfold aloud at *
  split at hh
  · split at hh
    · split at hh
      · obtain ⟨h0, R, h1, h2, h3, h4⟩ := hh
        exact ⟨h0, R, h1, h2, h3, fun r h' hr hf => h _ (h4 r h' hr hf)⟩
      · exact hh.elim
    · split at hh
      · split at hh
        · obtain ⟨h1, h2, h3, h4, h5⟩ := hh
          refine ⟨h1, h2, h3, h4, ?_⟩
          split at h5
          · exact ⟨h5.1, growSm_mono h h5.2⟩
          · exact h5.elim
        · obtain ⟨h1, h2, h3, h4⟩ := hh
          exact ⟨h1, h2, h3, growMn_mono h h4⟩
        · exact hh.elim
      · exact hh.elim
    · split at hh
      · split at hh
        · obtain ⟨h1, h2, h3⟩ := hh
          refine ⟨h1, h2, ?_⟩
          split at h3
          · exact ⟨h3.1, h3.2.1, h3.2.2.1, h _ h3.2.2.2⟩
          · exact h3.elim
        · exact hh.elim
      · exact hh.elim
    · exact hh.elim
  · split at hh
    · obtain ⟨h1, h2, h3, h4⟩ := hh
      refine ⟨h1, h2, h3, ?_⟩
      split at h4
      · exact ⟨h4.1, h4.2.1, h _ h4.2.2⟩
      · exact h4.elim
    · exact hh.elim
  · split at hh
    · exact fun b hb => h _ (hh b hb)
    · exact hh.elim
  · exact hh.elim

theorem merge_out {M : Msk} {H h h' : Nat → Option (List AV)} (h1 : ∀ b, b ∉ M → h b = none) {b : Nat} (h2 : h' b = none) (hb : b ∉ M) : mergeH H h h' b = H b := by
  simp [mergeH, h1 b hb, h2]

theorem aload_h {P : Program} {M : Msk} {H1 H2 : Nat → Option (List AV)} (hs : ∀ b, b ∉ M → ∀ c, H1 b = some c → H2 b = some c) {t : TypeId} {x r : AV} (h : aload P (maskH M H1) t x = some r) : aload P (maskH M H2) t x = some r := by
  unfold aload at *
  cases hv : vT P t with
  | none => simp [hv] at h
  | some n =>
    simp only [hv] at h ⊢
    cases x with
    | ptr b off =>
      simp only at h ⊢
      cases hb : maskH M H1 b with
      | none => simp [hb] at h
      | some cells =>
        obtain ⟨h1, h2⟩ := maskH_some hb
        have : maskH M H2 b = some cells := by simp only [maskH, if_neg h2]; exact hs b h2 cells h1
        simp only [hb] at h
        simp only [this]; exact h
    | ea row off => exact h
    | _ => simp at h

theorem aeff_h {P : Program} {M : Msk} {ops : List Oper} {o : Oper} {s : ASt} {H2 : Nat → Option (List AV)} {K : Eff → Prop} (hs : ∀ b, b ∉ M → ∀ c, s.h b = some c → H2 b = some c) (h : aeff P M ops o s K) : aeff P M ops o { s with h := H2 } K := by
  have hev : ∀ x, ({ s with h := H2 } : ASt).evd x = s.evd x := fun x => by cases x <;> rfl
  obtain ⟨dst, op, type, pos, after, guard⟩ := o
  cases op with
  | load t x =>
    simp only [aeff, hev] at h ⊢
    by_cases hf : feeds ops dst = true
    · simp only [hf, if_true] at h ⊢
      cases hq : aloadOwn P { s with h := maskH M s.h } t (s.evd x) with
      | some q =>
        have : aloadOwn P { s with h := maskH M H2 } t (s.evd x) = some q := by
          unfold aloadOwn at hq ⊢
          split at hq
          · split at hq
            · rename_i b off _
              cases hb : maskH M s.h b with
              | none => simp [hb] at hq
              | some cells =>
                obtain ⟨h1, h2⟩ := maskH_some hb
                have hb2 : maskH M H2 b = some cells := by simp only [maskH, if_neg h2]; exact hs b h2 cells h1
                simp only [hb] at hq
                simp only [hb2]; exact hq
            · simp at hq
          · simp at hq
        rw [hq] at h
        rw [this]; exact h
      | none =>
        rw [hq] at h
        simp only at h
        cases hl : aload P (maskH M s.h) t (s.evd x) with
        | none => rw [hl] at h; exact h.elim
        | some r =>
          rw [hl] at h
          have hl2 := aload_h hs hl
          have : aloadOwn P { s with h := maskH M H2 } t (s.evd x) = none := by
            unfold aloadOwn at hq ⊢
            unfold aload at hl
            cases hv : vT P t with
            | none => rfl
            | some n =>
              obtain ⟨n1, n2⟩ := n
              simp only [hv] at hl
              cases n2 with
              | true => rfl
              | false =>
                simp only [hv] at hq ⊢
                cases hx : s.evd x with
                | ptr b off =>
                  simp only [hx] at hq hl ⊢
                  cases hb : maskH M s.h b with
                  | none => simp [hb] at hl
                  | some cells =>
                    obtain ⟨h1, h2⟩ := maskH_some hb
                    have hb2 : maskH M H2 b = some cells := by simp only [maskH, if_neg h2]; exact hs b h2 cells h1
                    simp only [hb] at hq
                    simp only [hb2]; exact hq
                | _ => rfl
          rw [this, hl2]; exact h
    · simp only [hf, Bool.false_eq_true, if_false] at h ⊢
      cases hl : aload P (maskH M s.h) t (s.evd x) with
      | none => rw [hl] at h; exact h.elim
      | some r => rw [hl] at h; rw [aload_h hs hl]; exact h
  | move x => cases x <;> exact h
  | assign x => cases x <;> exact h
  | makeFunc f a b => cases f <;> exact h
  | slice t x lo hi mx => cases mx <;> exact h
  | call c =>
    obtain ⟨callee, args, argTypes⟩ := c
    cases callee with
    | value f => exact h
    | invoke r m => exact h
    | builtin b => cases b <;> exact h
  | _ => exact h

/-- a quiet operation does not mind what a loud one does elsewhere -/
theorem quiet_stays {P : Program} {M : Msk} {ops : Array Oper} {oi oj : Oper} {ei : Eff} {s : ASt} (hap : oi.apart ops oj = true) (hy : QY P M ops oi ei s) (r : AV) (H : Nat → Option (List AV)) (hH : ∀ b, b ∉ M → ∀ c, s.h b = some c → H b = some c) :
    QY P M ops oi ei ({ s with h := H }.put oj.dst r) ∧ ei.app oi.dst ({ s with h := H }.put oj.dst r) = { (ei.app oi.dst s) with h := ei.hOf H }.put oj.dst r := by
  obtain ⟨p1, p2, p3⟩ := Oper.apart_spec hap
  have hdj : ∀ t, t ∈ oi.looksAt ops → oj.dst ≠ some t := fun t ht hd => p3 t hd ht
  have hsj : ∀ t, ei.src = some t → oj.dst ≠ some t := fun t ht => hdj t (src_reads (QY_src hy t ht))
  have st : ∀ t, oj.dst ≠ some t → ({ s with h := H }.put oj.dst r).t t = s.t t := fun t ht => by rw [put_t]; simp [ht]
  have hopr : ∀ t, Operand.tmp t ∈ oi.op.operands → oj.dst ≠ some t := fun t ht => hdj t (List.mem_append_left _ (List.mem_filterMap.2 ⟨.tmp t, by simpa using ht, rfl⟩))
  constructor
  · have hw : awanted ops.toList ({ s with h := H }.put oj.dst r) oi = awanted ops.toList s oi := by
      unfold awanted
      cases hg : oi.guard with
      | none => rfl
      | some gw =>
        obtain ⟨j, want⟩ := gw
        simp only [Array.getElem?_toList]
        cases hd : (ops[j]?).bind (·.dst) with
        | none => rfl
        | some k =>
          simp only
          rw [st k (hdj k (by simp [Oper.looksAt, hg, hd]))]
    have he : ∀ K : Eff → Prop, aeff P M ops.toList oi s K → aeff P M ops.toList oi ({ s with h := H }.put oj.dst r) K := fun K h => by
      have h1 := aeff_h (H2 := H) hH h
      refine (aeff_congr (s := { s with h := H }) (fun x hx => ?_) (fun t ht => ?_) (fun t a => by rw [put_h]) (fun _ t a => by
        unfold aloadOwn
        simp only [put_h])).2 h1
      · cases x with
        | tmp t => show dead1 (({ s with h := H } : ASt).put oj.dst r |>.t t) = dead1 (s.t t); rw [st t (hopr t hx)]
        | _ => rfl
      · exact st t (hopr t (src_operand ht))
    unfold QY at hy ⊢
    rw [hw]
    rcases hy with ⟨h1, h2⟩ | ⟨h1, h2⟩
    · exact .inl ⟨h1, he _ h2⟩
    · exact .inr ⟨h1, h2⟩
  · have hv : ei.valOf ({ s with h := H }.put oj.dst r) = ei.valOf s := by
      cases ei with
      | val x => rfl
      | hand t => exact st t (hsj t rfl)
      | grow t e sz rows => simp only [Eff.valOf]; rw [st t (hsj t rfl)]
      | take b off z => rfl
    refine ASt.ext' (by rw [app_n, put_n, put_n]; show s.n = (ei.app oi.dst s).n; rw [app_n]) ?_ ?_
    · funext k
      rw [app_t, hv, put_n, put_t, put_t]
      show (if oi.dst = some k ∧ k < s.n then ei.valOf s else if ei.src = some k ∧ k < s.n then dead1 (if oj.dst = some k ∧ k < s.n then r else s.t k) else if oj.dst = some k ∧ k < s.n then r else s.t k) =
        if oj.dst = some k ∧ k < (ei.app oi.dst s).n then r else (ei.app oi.dst s).t k
      rw [app_n, app_t]
      by_cases q1 : oj.dst = some k ∧ k < s.n
      · have q2 : ¬ (oi.dst = some k ∧ k < s.n) := fun h => p2 k h.1 q1.1
        have q3 : ¬ (ei.src = some k ∧ k < s.n) := fun h => hsj k h.1 q1.1
        simp only [if_pos q1, if_neg q2, if_neg q3]
      · simp only [if_neg q1]
    · rw [app_h, put_h, put_h]

theorem QY_has {P : Program} {M : Msk} {ops : Array Oper} {o : Oper} {s : ASt} {b off : Nat} {z : AV} (h : QY P M ops o (.take b off z) s) : ∃ c, s.h b = some c := by
  rcases h with ⟨_, h⟩ | ⟨_, h⟩
  · obtain ⟨dst, op, type, pos, after, guard⟩ := o
    have ht := (aeff_src h).2 (by simp [Eff.cell])
    cases op with
    | load t x =>
      simp only [aeff] at h
      split at h
      · rename_i q hq
        injection h with h1 h2 h3
        split at hq
        · unfold aloadOwn at hq
          split at hq
          · split at hq
            · rename_i b' off' _
              split at hq
              · rename_i cells hcells
                split at hq
                · split at hq
                  · obtain rfl := Option.some.inj hq
                    simp only at h1 h2
                    subst h1
                    exact ⟨_, (maskH_some hcells).1⟩
                  · simp at hq
                · simp at hq
              · simp at hq
            · simp at hq
          · simp at hq
        · simp at hq
      · split at h
        · simp at h
        · exact h.elim
    | _ => simp [isTake] at ht
  · simp at h

theorem loud_comm {P : Program} {M : Msk} {ops : Array Oper} {oi oj : Oper} {ei : Eff} {s : ASt} {K : ASt → Prop} (hap : oi.apart ops oj = true) (hy : QY P M ops oi ei s)
    (h : aloud P M oj (ei.app oi.dst s) K) : aloud P M oj s (fun s2 => QY P M ops oi ei s2 ∧ K (ei.app oi.dst s2)) := by
  obtain ⟨p1, p2, p3⟩ := Oper.apart_spec hap
  have hev : ∀ x ∈ oj.op.operands, (ei.app oi.dst s).evd x = s.evd x := fun x hx => evd_app _ _ _ _ fun t ht hd => p1 t hd (List.mem_append_left _ (List.mem_filterMap.2 ⟨.tmp t, by rw [← ht]; simpa using hx, rfl⟩))
  have hcell : ∀ b off z, ei = .take b off z → b ∉ M := fun b off z he => by subst he; exact QY_mask hy
  have hM : ∀ b, b ∈ M → (ei.app oi.dst s).h b = s.h b := fun b hb => by
    rw [app_h]
    cases ei with
    | take b' off z =>
      have : b ≠ b' := by rintro rfl; exact hcell b off z rfl hb
      simp [Eff.hOf, upd, this]
    | _ => rfl
  have hnone : ∀ b, s.h b = none ↔ (ei.app oi.dst s).h b = none := fun b => by
    rw [app_h]
    cases ei with
    | take b' off z =>
      by_cases hb : b = b'
      · subst hb; simp [Eff.hOf, upd]
      · simp [Eff.hOf, upd, hb]
    | _ => exact Iff.rfl
  -- what is done to the objects is done behind the quiet one too
  have turn : ∀ (r : AV) (F : (Nat → Option (List AV)) → Nat → Option (List AV)), (∀ b, b ∉ M → ∀ c, s.h b = some c → F s.h b = some c) →
      (∀ b, b ∉ M → (∃ c, s.h b = some c) → ∀ H, F H b = H b) → (∀ H H' b, (b ∈ M ∨ H b = H' b) → (∀ k ∈ M, H k = H' k) → F H b = F H' b) →
      K ({ (ei.app oi.dst s) with h := F (ei.app oi.dst s).h }.put oj.dst r) → QY P M ops oi ei ({ s with h := F s.h }.put oj.dst r) ∧ K (ei.app oi.dst ({ s with h := F s.h }.put oj.dst r)) := by
    intro r F h1 h2 h3 hk
    obtain ⟨q1, q2⟩ := quiet_stays hap hy r (F s.h) h1
    refine ⟨q1, ?_⟩
    rw [q2]
    have : ei.hOf (F s.h) = F (ei.app oi.dst s).h := by
      rw [app_h]
      cases ei with
      | take b off z =>
        have hb := hcell b off z rfl
        have hex := QY_has hy
        funext k
        by_cases hk : k = b
        · subst hk
          rw [h2 k hb hex]
          simp only [Eff.hOf, upd, if_true]
          rw [h2 k hb hex]
        · have a4 : upd s.h b ((s.h b).map fun cs => cs.modify off dead1) k = s.h k := by simp only [upd, if_neg hk]
          have : (Eff.take b off z).hOf (F s.h) k = F s.h k := by simp only [Eff.hOf, upd, if_neg hk]
          rw [this]
          refine h3 _ _ k (.inr a4.symm) fun m hm => ?_
          have : m ≠ b := by rintro rfl; exact hb hm
          simp only [Eff.hOf, upd, if_neg this]
      | _ => rfl
    rw [this]; exact hk
  unfold aloud at *
  split at h
  · rename_i c hop
    split at h
    · rename_i f hf
      have hfo : f ∈ oj.op.operands := by rw [hop]; simp [Op.operands, Call.operands, hf]
      rw [hev f hfo] at h
      split at h
      · rename_i g cap hg
        obtain ⟨h0, R, h1, h2, h3, h4⟩ := h
        have hargs : (c.args.toList.map fun x => (ei.app oi.dst s).evd x) = c.args.toList.map fun x => s.evd x := List.map_congr_left fun x hx => hev x (by rw [hop]; simp [Op.operands, Call.operands, hf]; exact .inr (by simpa using hx))
        rw [hargs] at h3
        refine ⟨h0, R, h1, fun b c hb => ?_, h3, fun r h' hr hfr => ?_⟩
        · have hbM : b ∈ M := by
            rcases Classical.em (b ∈ M) with h | h
            · exact h
            · rw [h1 b h] at hb; simp at hb
          obtain ⟨d, hd, hw⟩ := h2 b c hb
          exact ⟨d, by rw [← hM b hbM]; exact hd, hw⟩
        · have hk := h4 r h' hr (fun b c hb hn => (hnone b).1 (hfr b c hb hn))
          have out : ∀ b, b ∉ M → (∃ c, s.h b = some c) → h' b = none := fun b hb ⟨c, hc⟩ => by
            cases hq : h' b with
            | none => rfl
            | some d => have := hfr b d hq (h1 b hb); rw [hc] at this; simp at this
          refine turn r (fun H => mergeH H h0 h') (fun b hb c hc => ?_) (fun b hb hex H => merge_out h1 (out b hb hex) hb) (fun H H' b hb hm => ?_) hk
          · show mergeH s.h h0 h' b = some c
            rw [merge_out h1 (out b hb ⟨c, hc⟩) hb]; exact hc
          · have : H b = H' b := by rcases hb with hb | hb; exact hm b hb; exact hb
            simp only [mergeH, this]
      · exact h.elim
    · rename_i hf
      split at h
      · rename_i tx y t t' hargs hts
        have hxo : (Operand.tmp tx) ∈ oj.op.operands := by rw [hop]; simp only [Op.operands, Call.operands, hf, Array.empty_append]; rw [← Array.mem_toList_iff, hargs]; simp
        have hyo : y ∈ oj.op.operands := by rw [hop]; simp only [Op.operands, Call.operands, hf, Array.empty_append]; rw [← Array.mem_toList_iff, hargs]; simp
        rw [hev _ hxo, hev _ hyo] at h
        split at h
        · rename_i b off n cc tag2 rows2 e h1 h2 h3
          obtain ⟨g1, g2, g3, g4, g5⟩ := h
          rw [hM b g4] at g5
          refine ⟨g1, g2, g3, g4, ?_⟩
          split at g5
          · rename_i cells hb
            obtain ⟨g5, g6⟩ := g5
            refine ⟨g5, fun b' c' spare q1 q2 q3 => ?_⟩
            have hk := g6 b' c' spare (by rcases q1 with q1 | q1; exact .inl q1; exact .inr ((hnone b').1 q1)) q2 q3
            have hbb : ∀ k, k ∉ M → (∃ c, s.h k = some c) → k ≠ b ∧ k ≠ b' := fun k hkM ⟨c, hc⟩ => by
              have : k ≠ b := by rintro rfl; exact hkM g4
              refine ⟨this, ?_⟩
              rintro rfl
              rcases q1 with q1 | q1
              · exact this q1
              · rw [q1] at hc; simp at hc
            refine turn _ (fun H => upd (upd H b none) b' _) (fun k hk c hc => ?_) (fun k hk hex H => ?_) (fun H H' k hk hm => ?_) hk
            · obtain ⟨a1, a2⟩ := hbb k hk ⟨c, hc⟩
              simp only [upd, if_neg a1, if_neg a2]; exact hc
            · obtain ⟨a1, a2⟩ := hbb k hk hex
              simp only [upd, if_neg a1, if_neg a2]
            · have : H k = H' k := by rcases hk with hk | hk; exact hm k hk; exact hk
              simp only [upd, this]
          · exact g5.elim
        · rename_i tag2 rows2 e h1 h2 h3
          obtain ⟨g1, g2, g3, g4, g5⟩ := h
          refine ⟨g1, g2, g3, fun he => ?_, fun hne b' c' spare q1 q2 q3 => ?_⟩
          · exact turn _ (fun H => H) (fun b _ c hc => hc) (fun b _ _ H => rfl) (fun H H' b hb hm => by rcases hb with hb | hb; exact hm b hb; exact hb) (g4 he)
          · have hk := g5 hne b' c' spare ((hnone b').1 q1) q2 q3
            refine turn _ (fun H => upd H b' _) (fun k hk c hc => ?_) (fun k hk hex H => ?_) (fun H H' k hk hm => ?_) hk
            · have : k ≠ b' := by rintro rfl; rw [q1] at hc; simp at hc
              simp only [upd, if_neg this]; exact hc
            · have : k ≠ b' := by rintro rfl; obtain ⟨c, hc⟩ := hex; rw [q1] at hc; simp at hc
              simp only [upd, if_neg this]
            · have : H k = H' k := by rcases hk with hk | hk; exact hm k hk; exact hk
              simp only [upd, this]
        · exact h.elim
      · exact h.elim
    · rename_i hf
      split at h
      · rename_i x y t t' hargs hts
        have hxo : x ∈ oj.op.operands := by rw [hop]; simp only [Op.operands, Call.operands, hf, Array.empty_append]; rw [← Array.mem_toList_iff, hargs]; simp
        have hyo : y ∈ oj.op.operands := by rw [hop]; simp only [Op.operands, Call.operands, hf, Array.empty_append]; rw [← Array.mem_toList_iff, hargs]; simp
        rw [hev _ hxo, hev _ hyo] at h
        split at h
        · rename_i b off n cc b2 off2 n2 cc2 e h1 h2 h3
          obtain ⟨g1, g2, g3⟩ := h
          rw [hM b g1, hM b2 g2] at g3
          refine ⟨g1, g2, ?_⟩
          split at g3
          · rename_i cells cells2 hb hb2
            obtain ⟨g4, g5, g6, g7⟩ := g3
            refine ⟨g4, g5, g6, turn _ (fun H => upd H b (some (overlay cells off (((cells2.drop off2).take (min n2 n * e.2.1)).map dead1)))) (fun k hkM c hc => ?_) (fun k hkM hex H => ?_) (fun H H' k hk hm => ?_) g7⟩
            · have : k ≠ b := by rintro rfl; exact hkM g1
              simp only [upd, if_neg this]; exact hc
            · have : k ≠ b := by rintro rfl; exact hkM g1
              simp only [upd, if_neg this]
            · have : H k = H' k := by rcases hk with hk | hk; exact hm k hk; exact hk
              simp only [upd, this]
          · exact g3.elim
        · exact h.elim
      · exact h.elim
    · exact h.elim
  · rename_i t x y hop
    rw [hev x (by rw [hop]; simp [Op.operands]), hev y (by rw [hop]; simp [Op.operands])] at h
    split at h
    · rename_i b off n h1 h2
      obtain ⟨g1, g2, g3, g4⟩ := h
      rw [hM b g3] at g4
      refine ⟨g1, g2, g3, ?_⟩
      split at g4
      · rename_i cells cs hb hcs
        obtain ⟨g4, g5, g6⟩ := g4
        refine ⟨g4, g5, ?_⟩
        have hk : K ({ (ei.app oi.dst s) with h := upd (ei.app oi.dst s).h b (some (overlay cells off cs)) }.put oj.dst (.v undef)) := by rw [g1]; exact g6
        have := turn (.v undef) (fun H => upd H b (some (overlay cells off cs))) (fun k hkM c hc => ?_) (fun k hkM hex H => ?_) (fun H H' k hk hm => ?_) hk
        · rw [g1] at this; exact this
        · have : k ≠ b := by rintro rfl; exact hkM g3
          simp only [upd, if_neg this]; exact hc
        · have : k ≠ b := by rintro rfl; exact hkM g3
          simp only [upd, if_neg this]
        · have : H k = H' k := by rcases hk with hk | hk; exact hm k hk; exact hk
          simp only [upd, this]
      · exact g4.elim
    · exact h.elim
  · split at h
    · rename_i z hz
      intro b hb
      refine turn (.ptr b 0) (fun H => upd H b (some (z.map nl))) (fun k hk c hc => ?_) (fun k hk hex H => ?_) (fun H H' k hk hm => ?_) (h b ((hnone b).1 hb))
      · have : k ≠ b := by rintro rfl; rw [hb] at hc; simp at hc
        simp only [upd, if_neg this]; exact hc
      · have : k ≠ b := by rintro rfl; obtain ⟨c, hc⟩ := hex; rw [hb] at hc; simp at hc
        simp only [upd, if_neg this]
      · have : H k = H' k := by rcases hk with hk | hk; exact hm k hk; exact hk
        simp only [upd, this]
    · exact h.elim
  · exact h.elim

/-- it reads no object -/
def memless (op : Op) : Bool := match op with
  | .extract .. | .binOp .. | .unOp .. | .pick .. | .field .. | .build .. => true
  | _ => false
/-- it makes a new object, or stores -/
def still (op : Op) : Bool := match op with
  | .store .. | .alloc .. => true
  | _ => false
theorem aeff_memless {P : Program} {M M' : Msk} {ops : List Oper} {o : Oper} {s : ASt} {K : Eff → Prop} (hm : memless o.op = true) (h : aeff P M ops o s K) : aeff P M' ops o s K := by
  obtain ⟨dst, op, type, pos, after, guard⟩ := o
  cases op <;> simp only [memless, Bool.false_eq_true] at hm <;> (unfold aeff aval at *; exact h)
theorem QY_memless {P : Program} {M M' : Msk} {ops : Array Oper} {o : Oper} {e : Eff} {s : ASt} (hm : memless o.op = true) (h : QY P M ops o e s) : QY P M' ops o e s := by
  rcases h with ⟨h1, h2⟩ | h
  · exact .inl ⟨h1, aeff_memless hm h2⟩
  · exact .inr h
theorem QY_val {P : Program} {M : Msk} {ops : Array Oper} {o : Oper} {e : Eff} {s : ASt} (hm : memless o.op = true) (h : QY P M ops o e s) : ∃ x, e = .val x := by
  rcases h with ⟨_, h2⟩ | ⟨_, h⟩
  · obtain ⟨dst, op, type, pos, after, guard⟩ := o
    cases op <;> simp only [memless, Bool.false_eq_true] at hm <;> (unfold aeff at h2; simp only at h2; split at h2; exact ⟨_, h2.symm⟩; exact h2.elim)
  · exact ⟨_, h⟩
theorem memless_src {ops : List Oper} {o : Oper} (hm : memless o.op = true) (t : Tmp) : srcOf ops o ≠ some t := by
  obtain ⟨dst, op, type, pos, after, guard⟩ := o
  cases op <;> simp only [memless, Bool.false_eq_true] at hm <;> simp [srcOf]
/-- what reads no object may stand behind a store -/
theorem still_comm {P : Program} {M : Msk} {ops : Array Oper} {oi oj : Oper} {ei : Eff} {s : ASt} {K : ASt → Prop} (hap : oi.apart ops oj = true) (hm : memless oi.op = true) (hs : still oj.op = true) (hy : QY P M ops oi ei s)
    (h : aop P ops.toList oj (ei.app oi.dst s) K) : aop P ops.toList oj s (fun s2 => QY P M ops oi ei s2 ∧ K (ei.app oi.dst s2)) := by
  obtain ⟨x, rfl⟩ := QY_val hm hy
  obtain ⟨p1, p2, p3⟩ := Oper.apart_spec hap
  have hopd : ∀ t, Operand.tmp t ∈ oj.op.operands → oi.dst ≠ some t := fun t ht hd => p1 t hd (List.mem_append_left _ (List.mem_filterMap.2 ⟨.tmp t, by simpa using ht, rfl⟩))
  have ht1 : ∀ t, oi.dst ≠ some t → ((Eff.val x).app oi.dst s).t t = s.t t := fun t ht => by rw [app_t]; simp [ht, Eff.src]
  have hev : ∀ y, y ∈ oj.op.operands → ((Eff.val x).app oi.dst s).ev y = s.ev y := fun y hy => by
    cases y with
    | tmp t => exact ht1 t (hopd t hy)
    | _ => rfl
  have hh : ((Eff.val x).app oi.dst s).h = s.h := by rw [app_h]; rfl
  have turn : ∀ (s0 : ASt), QY P M ops oi (.val x) s0 → ∀ (r : AV) (H : Nat → Option (List AV)), (∃ b, ∀ k, k ≠ b → ∀ c, s0.h k = some c → H k = some c) → K ({ ((Eff.val x).app oi.dst s0) with h := H }.put oj.dst r) → QY P M ops oi (.val x) ({ s0 with h := H }.put oj.dst r) ∧ K ((Eff.val x).app oi.dst ({ s0 with h := H }.put oj.dst r)) := by
    rintro s0 hy0 r H ⟨b, hb⟩ hk
    obtain ⟨q1, q2⟩ := quiet_stays (M := Msk.of [b]) hap (QY_memless hm hy0) r H (fun k hkb c hc => hb k (by simpa using hkb) c hc)
    exact ⟨QY_memless hm q1, by rw [q2]; exact hk⟩
  obtain ⟨dj, opj, tyj, posj, afterj, gj⟩ := oj
  cases opj <;> simp only [still, Bool.false_eq_true] at hs
  case alloc e =>
    simp only [aop] at h ⊢
    split at h
    · rename_i z hz
      intro b hb
      have hk := h b (by rw [hh]; exact hb)
      rw [hh] at hk
      exact turn s hy _ _ ⟨b, fun k hk c hc => by simp only [upd, if_neg hk]; exact hc⟩ hk
    · exact h.elim
  case store t a y =>
    simp only [aop] at h ⊢
    rw [hev a (by simp [Op.operands]), hev y (by simp [Op.operands]), hh] at h
    split at h
    · rename_i b off n h1 h2
      split at h
      · rename_i cells cs h3 h4
        obtain ⟨g1, g2, g3, g4⟩ := h
        refine ⟨g1, g2, g3, ?_⟩
        subst g1
        split at g4
        · rename_i ty tag rows h5
          have hne : oi.dst ≠ some ty := hopd ty (by simp [Op.operands])
          have e1 : ((Eff.val x).app oi.dst s).kill ty = (Eff.val x).app oi.dst (s.kill ty) := by
            refine ASt.ext' (by rw [app_n]; simp [kill_eq, app_n]) ?_ (by rw [app_h]; simp [kill_eq, app_h])
            funext k
            rw [app_t]
            simp only [kill_eq, Eff.src]
            simp only [app_t, Eff.src]
            by_cases hk : oi.dst = some k
            · have : k ≠ ty := by rintro rfl; exact hne hk
              simp [hk, this, Eff.valOf, put_t, app_t, Eff.src, Ne.symm this]
            · have h3 := ht1 ty hne
              simp [hk, put_t, app_t, app_n, Eff.src, hne]
          have e2 : QY P M ops oi (.val x) (s.kill ty) := by
            have : s.kill ty = (Eff.hand ty).app none s := by rw [app_hand']; rfl
            rw [this]
            unfold QY
            rw [awanted_app (fun t _ h => by simp at h), aeff_app (fun t _ h => by simp at h) (fun t ht => absurd ht (memless_src hm t)) (fun t ht => absurd ht (memless_src hm t)) (.inl rfl)]
            exact hy
          rw [e1] at g4
          exact turn (s.kill ty) e2 (.v undef) _ ⟨b, fun k hk c hc => by simp only [upd, if_neg hk]; simpa [kill_eq] using hc⟩ g4
        · rename_i hno
          refine turn s hy (.v undef) _ ⟨b, fun k hk c hc => by simp only [upd, if_neg hk]; exact hc⟩ g4
      · exact h.elim
    · exact h.elim

/-- operation number i comes up -/
def qstep (P : Program) (M : Msk) (ops : Array Oper) (ms : List Md) (i : Nat) (K : ASt → Prop) (s : ASt) : Prop :=
  match ops[i]? with
  | none => K s
  | some o => match mdAt ms i with
    | .q => ∃ e, QY P M ops o e s ∧ K (e.app o.dst s)
    | .r => ∃ e, QY P (Msk.of []) ops o e s ∧ K (e.app o.dst s)
    | .l => if awanted ops.toList s o = true then aloud P M o s K else K (s.put o.dst (.v undef))
    | .s => if awanted ops.toList s o = true then aop P ops.toList o s K else K (s.put o.dst (.v undef))

def aAny (P : Program) (M : Msk) (md : Region.Mode) (ops : Array Oper) (ms : List Md) (K : ASt → Prop) : Nat → Array Bool → ASt → Prop
  | 0, listed, s => Region.ready md ops listed = [] ∧ K s
  | fuel + 1, listed, s => (Region.ready md ops listed = [] → K s) ∧ ∀ i ∈ Region.ready md ops listed, qstep P M ops ms i (aAny P M md ops ms K fuel (listed.setIfInBounds i true)) s

theorem put_undef (d : Option Tmp) (s : ASt) : s.put d (.v undef) = (Eff.val (.v undef)).app d s := by
  refine ASt.ext' (by rw [put_n, app_n]) ?_ (by rw [put_h]; rfl)
  funext k
  rw [put_t, app_t]
  simp [Eff.valOf, Eff.src]

theorem ACall.mono {P : Program} {g : FuncId} {args : List AV} {s : ASt} {d : Option Tmp} {K K' : ASt → Prop} (h : ∀ s, K s → K' s) (hh : ACall P g args s d K) : ACall P g args s d K' := by
  rcases hh with ⟨R, h1, h2⟩ | ⟨h0, R, h1, h2, h3⟩ | ⟨b, cells, rows, sz, R, h1, h2, h3, h4⟩
  · refine .inl ⟨R, h1, fun r hr => ?_⟩
    rcases h2 r hr with h2 | ⟨e, sz, pu, rows, q1, q2, q3, q4⟩
    · exact .inl (h2.mono h)
    · exact .inr ⟨e, sz, pu, rows, q1, q2, q3, fun b cap spare p1 p2 p3 => h _ (q4 b cap spare p1 p2 p3)⟩
  · exact .inr (.inl ⟨h0, R, h1, h2, fun r h' hr hf => (h3 r h' hr hf).mono h⟩)
  · exact .inr (.inr ⟨b, cells, rows, sz, R, h1, h2, h3, fun r hr => ⟨(h4 r hr).1, (h4 r hr).2.mono h⟩⟩)

theorem bsP_mono {e : Option (Nat × Nat × Nat)} {r : AV} {s : ASt} {d : Option Tmp} {K K' : ASt → Prop} (h : ∀ s, K s → K' s) (hh : bsP e r s d K) : bsP e r s d K' := by
  unfold bsP at *
  split at hh
  · split at hh
    · rename_i hc
      simp only [hc, if_true]
      rcases hh with hh | ⟨rows, h1, e1, sz, pu, rows1, q1, q2, q3, q4⟩
      · exact .inl (h _ hh)
      · exact .inr ⟨rows, h1, e1, sz, pu, rows1, q1, q2, q3, fun b cap spare p1 p2 p3 => h _ (q4 b cap spare p1 p2 p3)⟩
    · rename_i hc
      simp only [hc, if_false]
      exact h _ hh
  · exact h _ hh
theorem aop_mono {P : Program} {ops : List Oper} {o : Oper} {s : ASt} {K K' : ASt → Prop} (h : ∀ s, K s → K' s) (hh : aop P ops o s K) : aop P ops o s K' := by
  unfold aop at *
  split at hh
  · exact h _ hh
  · exact h _ hh
  · split at hh
    · rename_i hf; rw [if_pos hf]; exact h _ hh
    · rename_i hf; rw [if_neg hf]; exact h _ hh
  · exact h _ hh
  · split at hh
    · exact h _ hh
    · split at hh
      · exact h _ hh
      · exact hh.elim
  · split at hh
    · exact fun b hb => h _ (hh b hb)
    · exact hh.elim
  · split at hh
    · exact fun b hb => h _ (hh b hb)
    · exact hh.elim
  · split at hh
    · exact ⟨hh.1, fun b hb => h _ (hh.2 b hb)⟩
    · split at hh
      · exact h _ hh
      · exact hh.elim
  · split at hh
    · split at hh
      · obtain ⟨h1, h2, h3, h4⟩ := hh
        refine ⟨h1, h2, h3, ?_⟩
        split at h4
        · exact h _ h4
        · exact h _ h4
      · exact hh.elim
    · exact hh.elim
  · split at hh
    · split at hh
      · exact hh.imp (ACall.mono h) (ACall.mono h)
      · exact hh.elim
    · split at hh
      · split at hh
        · rename_i htt
          rw [if_pos htt]
          split at hh
          · obtain ⟨h1, h2, h3, h4, h5⟩ := hh; exact ⟨h1, h2, h3, h4, h _ h5⟩
          · obtain ⟨h1, h2, h3, h5⟩ := hh
            refine ⟨h1, h2, h3, ?_⟩
            split at h5
            · exact ⟨h5.1, growSm_mono h h5.2⟩
            · exact h5.elim
          · obtain ⟨h1, h2, h3, h4⟩ := hh
            exact ⟨h1, h2, h3, growMn_mono h h4⟩
          · exact hh.elim
        · rename_i htt
          rw [if_neg htt]
          exact hh.mono h
      · exact hh.elim
    · exact hh.mono h
    · exact hh.mono h
    · split at hh
      · split at hh
        · obtain ⟨h1, h2⟩ := hh
          refine ⟨h1, ?_⟩
          split at h2
          · exact ⟨h2.1, h _ h2.2⟩
          · exact h2.elim
        · split at hh
          · obtain ⟨h1, h2, h3, h4⟩ := hh; exact ⟨h1, h2, h3, h _ h4⟩
          · exact hh.elim
        · split at hh
          · exact ⟨hh.1, h _ hh.2⟩
          · exact hh.elim
        · exact hh.elim
      · exact hh.elim
    · unfold aBuiltinK at *
      split at hh
      · split at hh
        · unfold lenFact at *
          split at hh
          · exact fun hl => h _ (hh hl)
          · exact fun hl => h _ (hh hl)
          · exact h _ hh
        · exact h _ hh
      · exact hh.elim
    · exact hh.elim
  · split at hh
    · split at hh
      · exact ⟨hh.1, fun b hb => h _ (hh.2 b hb)⟩
      · exact hh.elim
    · exact hh.elim
  · split at hh
    · exact h _ hh
    · exact hh.elim
  · split at hh
    · split at hh
      · rename_i ha
        rw [if_pos ha]
        exact bsP_mono h hh
      · rename_i ha
        rw [if_neg ha]
        exact h _ hh
    · exact hh.elim
  · exact hh.mono h
  · exact hh.mono h
  · exact hh.mono h
  · exact hh.mono h
  · exact hh.mono h
  · exact hh.mono h
  · exact hh.mono h
  · exact hh.mono h
  · split at hh
    · exact h _ hh
    · exact hh.elim

theorem aAny_first {P : Program} {M : Msk} {md : Region.Mode} {ops : Array Oper} {ms : List Md} {K : ASt → Prop} {i : Nat} {oi : Oper} {ei : Eff} (hi : ops[i]? = some oi) (hik : isQ (mdAt ms i) = true) :
    ∀ (fuel : Nat) (listed : Array Bool) (s : ASt),
      (∀ j oj, ops[j]? = some oj → j ≠ i → listed.getD j true = false → (∀ e ∈ oj.after, Region.binds md e = true → e.on ≠ i) → (∀ e ∈ oj.after, Region.binds md e = true → listed.getD e.on true = false → ∀ om, ops[e.on]? = some om → ∀ e2 ∈ om.after, Region.binds md e2 = true → e2.on ≠ i) → (isQ (mdAt ms j) = true ∧ apart2 P ops oi oj = true) ∨ ((mdAt ms j = .l ∧ mdAt ms i = .q) ∧ oi.apart ops oj = true) ∨ (mdAt ms j = .s ∧ (still oj.op = true ∧ memless oi.op = true) ∧ oi.apart ops oj = true)) →
      i ∈ Region.ready md ops listed → QY P (maskOf (mdAt ms i) M) ops oi ei s →
      aAny P M md ops ms K fuel (listed.setIfInBounds i true) (ei.app oi.dst s) → aAny P M md ops ms K (fuel + 1) listed s := by
  intro fuel
  have step : ∀ (K' : ASt → Prop) (s : ASt), QY P (maskOf (mdAt ms i) M) ops oi ei s → K' (ei.app oi.dst s) → qstep P M ops ms i K' s := fun K' s hy h => by
    unfold qstep
    simp only [hi]
    cases hm : mdAt ms i with
    | q => rw [hm] at hy; exact ⟨ei, hy, h⟩
    | r => rw [hm] at hy; exact ⟨ei, hy, h⟩
    | l => rw [hm] at hik; simp [isQ] at hik
    | s => rw [hm] at hik; simp [isQ] at hik
  induction fuel with
  | zero =>
    intro listed s _ hr hy H
    refine ⟨fun h => (by rw [h] at hr; cases hr), fun j hj => ?_⟩
    by_cases hji : j = i
    · subst hji; exact step _ _ hy H
    · have := ready_mono hj hji
      rw [H.1] at this
      cases this
  | succ fuel ih =>
    intro listed s hfree hr hy H
    refine ⟨fun h => (by rw [h] at hr; cases hr), fun j hj => ?_⟩
    by_cases hji : j = i
    · subst hji; exact step _ _ hy H
    · have h1 := H.2 j (ready_mono hj hji)
      obtain ⟨hjun, oj, hoj, hall⟩ := mem_ready.1 hj
      have hnot : ∀ e ∈ oj.after, Region.binds md e = true → e.on ≠ i := fun e he hb heq => by
        have h1 := hall e he hb
        have h0 := (mem_ready.1 hr).1
        rw [heq] at h1
        rcases Nat.lt_or_ge i listed.size with h' | h'
        · simp [h'] at h0 h1; rw [h0] at h1; cases h1
        · simp [Array.getElem?_eq_none h'] at h1
      have hfree' : ∀ k ok, ops[k]? = some ok → k ≠ i → (listed.setIfInBounds j true).getD k true = false →
          (∀ e ∈ ok.after, Region.binds md e = true → e.on ≠ i) → (∀ e ∈ ok.after, Region.binds md e = true → (listed.setIfInBounds j true).getD e.on true = false → ∀ om, ops[e.on]? = some om → ∀ e2 ∈ om.after, Region.binds md e2 = true → e2.on ≠ i) → (isQ (mdAt ms k) = true ∧ apart2 P ops oi ok = true) ∨ ((mdAt ms k = .l ∧ mdAt ms i = .q) ∧ oi.apart ops ok = true) ∨ (mdAt ms k = .s ∧ (still ok.op = true ∧ memless oi.op = true) ∧ oi.apart ops ok = true) := fun k ok hk hki hun hno hno2 => by
        have hno3 : ∀ e ∈ ok.after, Region.binds md e = true → listed.getD e.on true = false → ∀ om, ops[e.on]? = some om → ∀ e2 ∈ om.after, Region.binds md e2 = true → e2.on ≠ i := fun e he hb hl om hom e2 he2 hb2 => by
          by_cases hej : j = e.on
          · rw [← hej, hoj] at hom
            obtain rfl := Option.some.inj hom
            exact hnot e2 he2 hb2
          · exact hno2 e he hb (by rw [getD_set_ne true hej]; exact hl) om hom e2 he2 hb2
        refine hfree k ok hk hki ?_ hno hno3
        by_cases hjk : j = k
        · subst hjk; exact hjun
        · rw [getD_set_ne true hjk] at hun; exact hun
      have go : ∀ s2, QY P (maskOf (mdAt ms i) M) ops oi ei s2 → aAny P M md ops ms K fuel ((listed.setIfInBounds i true).setIfInBounds j true) (ei.app oi.dst s2) → aAny P M md ops ms K (fuel + 1) (listed.setIfInBounds j true) s2 := fun s2 hy2 hK =>
        ih (listed.setIfInBounds j true) _ hfree' (ready_mono hr (Ne.symm hji)) hy2 (by rw [Array.setIfInBounds_comm _ _ hji]; exact hK)
      unfold qstep at h1 ⊢
      rcases hfree j oj hoj hji hjun hnot (fun e he hb hl => by
        exfalso
        have h1 := hall e he hb
        rcases Nat.lt_or_ge e.on listed.size with h' | h'
        · simp [h'] at h1 hl; rw [h1] at hl; cases hl
        · simp [Array.getElem?_eq_none h'] at h1) with ⟨hjk, hap⟩ | ⟨hjk, hap⟩ | ⟨hjs, ⟨hst, hml⟩, hap⟩
      · have both : ∀ Mj, (∃ e, QY P Mj ops oj e (ei.app oi.dst s) ∧ aAny P M md ops ms K fuel ((listed.setIfInBounds i true).setIfInBounds j true) (e.app oj.dst (ei.app oi.dst s))) →
            ∃ e, QY P Mj ops oj e s ∧ aAny P M md ops ms K (fuel + 1) (listed.setIfInBounds j true) (e.app oj.dst s) := fun Mj ⟨ej, hyj, hK⟩ => by
          have hyj' : QY P Mj ops oj ej s := (QY_app hap (QY_src hy) (QY_cell hy)).1 hyj
          have hyi' : QY P (maskOf (mdAt ms i) M) ops oi ei (ej.app oj.dst s) := (QY_app (apart2_symm hap) (QY_src hyj') (QY_cell hyj')).2 hy
          refine ⟨ej, hyj', go _ hyi' ?_⟩
          rw [← QY_comm hap hy hyj' s]
          exact hK
        simp only [hoj] at h1 ⊢
        cases hmj : mdAt ms j with
        | q => rw [hmj] at h1; exact both M h1
        | r => rw [hmj] at h1; exact both (Msk.of []) h1
        | l => rw [hmj] at hjk; simp [isQ] at hjk
        | s => rw [hmj] at hjk; simp [isQ] at hjk
      · obtain ⟨hjk, hiq⟩ := hjk
        rw [hiq] at hy go
        simp only [maskOf] at hy go
        simp only [hoj, hjk] at h1 ⊢
        obtain ⟨p1, p2, p3⟩ := Oper.apart_spec hap
        rw [awanted_app fun t ht hd => p1 t hd ht] at h1
        split at h1
        · rename_i hw
          rw [if_pos hw]
          exact aloud_mono (fun s2 ⟨hy2, hK⟩ => go s2 hy2 hK) (loud_comm hap hy h1)
        · rename_i hw
          rw [if_neg hw, put_undef]
          rw [put_undef] at h1
          have hyi' : QY P M ops oi ei ((Eff.val (.v undef)).app oj.dst s) := by
            have hread : ∀ t, .tmp t ∈ oi.op.operands → oj.dst ≠ some t := fun t ht hd => p3 t hd (List.mem_append_left _ (List.mem_filterMap.2 ⟨.tmp t, by simpa using ht, rfl⟩))
            unfold QY
            rw [awanted_app fun t ht hd => p3 t hd ht, aeff_app hread (fun t _ => by simp [Eff.src]) (fun t => src_operand) (.inl rfl)]
            exact hy
          refine go _ hyi' ?_
          rw [← app_comm oi.dst oj.dst ei (.val (.v undef)) s p2 (fun t ht => by simp [Eff.src] at ht) (fun t ht => ⟨fun hd => p3 t hd (src_reads (QY_src hy t ht)), by simp [Eff.src]⟩) (.inr rfl)]
          exact h1
      · simp only [hoj, hjs] at h1 ⊢
        obtain ⟨p1, p2, p3⟩ := Oper.apart_spec hap
        rw [awanted_app fun t ht hd => p1 t hd ht] at h1
        split at h1
        · rename_i hw
          rw [if_pos hw]
          exact aop_mono (fun s2 ⟨hy2, hK⟩ => go s2 hy2 hK) (still_comm hap hml hst hy h1)
        · rename_i hw
          rw [if_neg hw, put_undef]
          rw [put_undef] at h1
          have hyi' : QY P (maskOf (mdAt ms i) M) ops oi ei ((Eff.val (.v undef)).app oj.dst s) := by
            have hread : ∀ t, .tmp t ∈ oi.op.operands → oj.dst ≠ some t := fun t ht hd => p3 t hd (List.mem_append_left _ (List.mem_filterMap.2 ⟨.tmp t, by simpa using ht, rfl⟩))
            unfold QY
            rw [awanted_app fun t ht hd => p3 t hd ht, aeff_app hread (fun t _ => by simp [Eff.src]) (fun t => src_operand) (.inl rfl)]
            exact hy
          refine go _ hyi' ?_
          rw [← app_comm oi.dst oj.dst ei (.val (.v undef)) s p2 (fun t ht => by simp [Eff.src] at ht) (fun t ht => ⟨fun hd => p3 t hd (src_reads (QY_src hy t ht)), by simp [Eff.src]⟩) (.inr rfl)]
          exact h1

/-- the walk in the text's order -/
def aopsD (P : Program) (M : Msk) (ops : Array Oper) (ms : List Md) : Nat → List Oper → ASt → (ASt → Prop) → Prop
  | _, [], s, K => K s
  | i, o :: rest, s, K => match mdAt ms i with
    | .q => if awanted ops.toList s o = true then aeff P M ops.toList o s (fun e => aopsD P M ops ms (i + 1) rest (e.app o.dst s) K) else aopsD P M ops ms (i + 1) rest (s.put o.dst (.v undef)) K
    | .r => if awanted ops.toList s o = true then aeff P (Msk.of []) ops.toList o s (fun e => aopsD P M ops ms (i + 1) rest (e.app o.dst s) K) else aopsD P M ops ms (i + 1) rest (s.put o.dst (.v undef)) K
    | .l => if awanted ops.toList s o = true then aloud P M o s (fun s' => aopsD P M ops ms (i + 1) rest s' K) else aopsD P M ops ms (i + 1) rest (s.put o.dst (.v undef)) K
    | .s => if awanted ops.toList s o = true then aop P ops.toList o s (fun s' => aopsD P M ops ms (i + 1) rest s' K) else aopsD P M ops ms (i + 1) rest (s.put o.dst (.v undef)) K

def free2 (P : Program) (md : Region.Mode) (ops : Array Oper) (ms : List Md) (listed : Array Bool) (i : Nat) : Bool :=
  match ops[i]? with
  | none => false
  | some oi => (List.range ops.size).all fun j => j == i || listed.getD j true || match ops[j]? with
      | some oj => oj.after.any (fun e => Region.binds md e && e.on == i) || oj.after.any (fun e => Region.binds md e && !(listed.getD e.on true) && (match ops[e.on]? with
        | some om => om.after.any (fun e2 => Region.binds md e2 && e2.on == i)
        | none => false)) || (match mdAt ms j with
        | .q | .r => apart2 P ops oi oj
        | .l => mdAt ms i == .q && oi.apart ops oj
        | .s => still oj.op && memless oi.op && oi.apart ops oj)
      | none => true

def lexD (P : Program) (md : Region.Mode) (ops : Array Oper) (ms : List Md) : Nat → Nat → Array Bool → Bool
  | 0, _, listed => (Region.ready md ops listed).isEmpty
  | fuel + 1, k, listed => (match mdAt ms k with
      | .q | .r => (Region.ready md ops listed).contains k && free2 P md ops ms listed k
      | _ => Region.ready md ops listed == [k]) && lexD P md ops ms fuel (k + 1) (listed.setIfInBounds k true)

/-- the walk in an order of one's own -/
def aopsO (P : Program) (M : Msk) (ops : Array Oper) (ms : List Md) : List Nat → ASt → (ASt → Prop) → Prop
  | [], s, K => K s
  | i :: rest, s, K => match ops[i]? with
    | none => aopsO P M ops ms rest s K
    | some o => match mdAt ms i with
      | .q => if awanted ops.toList s o = true then aeff P M ops.toList o s (fun e => aopsO P M ops ms rest (e.app o.dst s) K) else aopsO P M ops ms rest (s.put o.dst (.v undef)) K
      | .r => if awanted ops.toList s o = true then aeff P (Msk.of []) ops.toList o s (fun e => aopsO P M ops ms rest (e.app o.dst s) K) else aopsO P M ops ms rest (s.put o.dst (.v undef)) K
      | .l => if awanted ops.toList s o = true then aloud P M o s (fun s' => aopsO P M ops ms rest s' K) else aopsO P M ops ms rest (s.put o.dst (.v undef)) K
      | .s => if awanted ops.toList s o = true then aop P ops.toList o s (fun s' => aopsO P M ops ms rest s' K) else aopsO P M ops ms rest (s.put o.dst (.v undef)) K

/-- it makes a new object, whatever is so -/
def isAlloc (P : Program) (o : Oper) : Bool := o.guard.isNone && (match o.op with | .alloc e => (zT P e).isSome | _ => false)
/-- two operations that make new objects may come in either order -/
def pair2 (P : Program) (md : Region.Mode) (ops : Array Oper) (ms : List Md) (k : Nat) (rest : List Nat) (listed : Array Bool) : Bool :=
  match rest with
  | [] => false
  | k' :: _ => mdAt ms k == .l && mdAt ms k' == .l && (Region.ready md ops listed == [k, k'] || Region.ready md ops listed == [k', k]) && Region.ready md ops (listed.setIfInBounds k' true) == [k] &&
    (match ops[k]?, ops[k']? with | some o, some o' => isAlloc P o && isAlloc P o' && o.dst != o'.dst && o.dst.isSome && o'.dst.isSome | _, _ => false)

def lexO (P : Program) (md : Region.Mode) (ops : Array Oper) (ms : List Md) : List Nat → Array Bool → Bool
  | [], listed => (Region.ready md ops listed).isEmpty
  | k :: rest, listed => (match mdAt ms k with
      | .q | .r => (Region.ready md ops listed).contains k && free2 P md ops ms listed k
      | .l => Region.ready md ops listed == [k] || pair2 P md ops ms k rest listed
      | .s => Region.ready md ops listed == [k]) && lexO P md ops ms rest (listed.setIfInBounds k true)

theorem aeff_some {P : Program} {M : Msk} {ops : List Oper} {o : Oper} {s : ASt} {K : Eff → Prop} (h : aeff P M ops o s K) : ∃ e, aeff P M ops o s (· = e) ∧ K e := by
  unfold aeff at *
  split at h
  · split at h
    · rename_i hf; exact ⟨_, by rw [if_pos hf], h⟩
    · rename_i hf; exact ⟨_, by rw [if_neg hf], h⟩
  · exact ⟨_, rfl, h⟩
  · exact ⟨_, rfl, h⟩
  all_goals first | exact h.elim | skip
  · split at h
    · exact ⟨_, rfl, h⟩
    · split at h
      · exact ⟨_, rfl, h⟩
      · exact h.elim
  · split at h
    · split at h
      · obtain ⟨x, h1, h2⟩ := h; exact ⟨_, ⟨x, h1, rfl⟩, h2⟩
      · exact h.elim
    · split at h
      · split at h
        · obtain ⟨h1, h2, h3, h4, h5⟩ := h; exact ⟨_, ⟨h1, h2, h3, h4, rfl⟩, h5⟩
        · exact h.elim
      · exact h.elim
    · split at h
      · exact ⟨_, rfl, h⟩
      · exact h.elim
    · exact h.elim
  · split at h
    · exact ⟨_, rfl, h⟩
    · exact h.elim

theorem aAny_lex {P : Program} {M : Msk} {md : Region.Mode} {ops : Array Oper} {ms : List Md} {K : ASt → Prop} : ∀ (l : List Oper) (k : Nat) (listed : Array Bool) (s : ASt), (∀ j, l[j]? = ops[k + j]?) →
    lexD P md ops ms l.length k listed = true → aopsD P M ops ms k l s K → aAny P M md ops ms K l.length listed s
  | [], _, _, _, _, hB, h => ⟨by simpa [lexD] using hB, h⟩
  | o :: l, k, listed, s, hl, hB, h => by
    have h0 : ops[k]? = some o := by simpa using (hl 0).symm
    simp only [List.length_cons, lexD, Bool.and_eq_true] at hB
    obtain ⟨hr, hB'⟩ := hB
    have hl' : ∀ j, l[j]? = ops[k + 1 + j]? := fun j => by have := hl (j + 1); simpa [Nat.add_assoc, Nat.add_comm 1 j] using this
    simp only [aopsD] at h
    have seq : Region.ready md ops listed = [k] → qstep P M ops ms k (aAny P M md ops ms K l.length (listed.setIfInBounds k true)) s → aAny P M md ops ms K (l.length + 1) listed s := fun hr' hq =>
      ⟨fun h => by rw [hr'] at h; simp at h, fun i hi => by
        rw [hr'] at hi
        simp at hi
        subst hi
        exact hq⟩
    have quiet : isQ (mdAt ms k) = true → ((Region.ready md ops listed).contains k && free2 P md ops ms listed k) = true →
        (if awanted ops.toList s o = true then aeff P (maskOf (mdAt ms k) M) ops.toList o s (fun e => aopsD P M ops ms (k + 1) l (e.app o.dst s) K) else aopsD P M ops ms (k + 1) l (s.put o.dst (.v undef)) K) →
        aAny P M md ops ms K (l.length + 1) listed s := by
      intro hk hr h
      simp only [Bool.and_eq_true] at hr
      obtain ⟨hr, hf⟩ := hr
      have hfree : ∀ j oj, ops[j]? = some oj → j ≠ k → listed.getD j true = false → (∀ e ∈ oj.after, Region.binds md e = true → e.on ≠ k) → (∀ e ∈ oj.after, Region.binds md e = true → listed.getD e.on true = false → ∀ om, ops[e.on]? = some om → ∀ e2 ∈ om.after, Region.binds md e2 = true → e2.on ≠ k) → (isQ (mdAt ms j) = true ∧ apart2 P ops o oj = true) ∨ ((mdAt ms j = .l ∧ mdAt ms k = .q) ∧ o.apart ops oj = true) ∨ (mdAt ms j = .s ∧ (still oj.op = true ∧ memless o.op = true) ∧ o.apart ops oj = true) := by
        intro j oj hj hne hun hno hno2
        simp only [free2, h0, List.all_eq_true, List.mem_range] at hf
        have h1 := hf j (Array.getElem?_eq_some_iff.1 hj).1
        simp only [hj, Bool.or_eq_true, beq_iff_eq, hne, false_or, hun, Bool.false_eq_true] at h1
        rcases h1 with (h1 | h1) | h1
        · obtain ⟨e, he, hb⟩ := Array.any_eq_true'.1 h1
          simp only [Bool.and_eq_true, beq_iff_eq] at hb
          exact absurd hb.2 (hno e he hb.1)
        · obtain ⟨e, he, hb⟩ := Array.any_eq_true'.1 h1
          simp only [Bool.and_eq_true, Bool.not_eq_true'] at hb
          obtain ⟨⟨hb1, hb2⟩, hb3⟩ := hb
          split at hb3
          · rename_i om hom
            obtain ⟨e2, he2, hb4⟩ := Array.any_eq_true'.1 hb3
            simp only [Bool.and_eq_true, beq_iff_eq] at hb4
            exact absurd hb4.2 (hno2 e he hb1 hb2 om hom e2 he2 hb4.1)
          · cases hb3
        · cases hmj : mdAt ms j with
          | q => rw [hmj] at h1; exact .inl ⟨rfl, h1⟩
          | r => rw [hmj] at h1; exact .inl ⟨rfl, h1⟩
          | l =>
            rw [hmj] at h1
            simp only [Bool.and_eq_true, beq_iff_eq] at h1
            exact .inr (.inl ⟨⟨rfl, h1.1⟩, h1.2⟩)
          | s =>
            rw [hmj] at h1
            simp only [Bool.and_eq_true] at h1
            exact .inr (.inr ⟨rfl, ⟨h1.1.1, h1.1.2⟩, h1.2⟩)
      by_cases hw : awanted ops.toList s o = true
      · simp only [hw, if_true] at h
        obtain ⟨e, he, hK⟩ := aeff_some h
        exact aAny_first h0 hk l.length listed s hfree (by simpa using hr) (.inl ⟨hw, he⟩) (aAny_lex l (k + 1) _ _ hl' hB' hK)
      · simp only [hw] at h
        refine aAny_first h0 hk l.length listed s hfree (by simpa using hr) (.inr ⟨by simpa using hw, rfl⟩) (aAny_lex l (k + 1) _ _ hl' hB' ?_)
        rw [← put_undef]; exact h
    cases hk : mdAt ms k with
    | q =>
      simp only [hk] at hr h
      exact quiet (by rw [hk]; rfl) hr (by rw [hk]; exact h)
    | r =>
      simp only [hk] at hr h
      exact quiet (by rw [hk]; rfl) hr (by rw [hk]; exact h)
    | l =>
      simp only [hk] at hr h
      refine seq (by simpa using hr) ?_
      unfold qstep
      simp only [h0, hk]
      split
      · rename_i hw
        simp only [hw, if_true] at h
        exact aloud_mono (fun s' hs' => aAny_lex l (k + 1) _ _ hl' hB' hs') h
      · rename_i hw
        simp only [hw] at h
        exact aAny_lex l (k + 1) _ _ hl' hB' h
    | s =>
      simp only [hk] at hr h
      refine seq (by simpa using hr) ?_
      unfold qstep
      simp only [h0, hk]
      split
      · rename_i hw
        simp only [hw, if_true] at h
        exact aop_mono (fun s' hs' => aAny_lex l (k + 1) _ _ hl' hB' hs') h
      · rename_i hw
        simp only [hw] at h
        exact aAny_lex l (k + 1) _ _ hl' hB' h

theorem aAny_pair {P : Program} {M : Msk} {md : Region.Mode} {ops : Array Oper} {ms : List Md} {K : ASt → Prop} {k k' : Nat} {l : List Nat} {listed : Array Bool} {s : ASt} (h1 : pair2 P md ops ms k (k' :: l) listed = true)
    (h : aopsO P M ops ms (k :: k' :: l) s K) (IHk : ∀ s', aopsO P M ops ms (k' :: l) s' K → aAny P M md ops ms K (l.length + 1) (listed.setIfInBounds k true) s')
    (IHl : ∀ s', aopsO P M ops ms l s' K → aAny P M md ops ms K l.length ((listed.setIfInBounds k true).setIfInBounds k' true) s') : aAny P M md ops ms K (l.length + 2) listed s := by
  simp only [pair2, Bool.and_eq_true, beq_iff_eq, Bool.or_eq_true] at h1
  obtain ⟨⟨⟨⟨hk, hk'⟩, hr⟩, hr'⟩, ho⟩ := h1
  split at ho
  · rename_i o o' h0 h0'
    simp only [Bool.and_eq_true, bne_iff_ne, ne_eq, isAlloc, Option.isNone_iff_eq_none] at ho
    obtain ⟨⟨⟨⟨⟨hg, hz⟩, hg', hz'⟩, hd⟩, hds⟩, hds'⟩ := ho
    have hkk : k ≠ k' := by
      rintro rfl
      have : k ∈ Region.ready md ops (listed.setIfInBounds k true) := by rw [hr']; simp
      obtain ⟨h2, _⟩ := mem_ready.1 this
      rcases Nat.lt_or_ge k listed.size with h' | h'
      · simp [h'] at h2
      · simp [Array.getElem?_eq_none, h'] at h2
    obtain ⟨d, ed⟩ := Option.isSome_iff_exists.1 hds
    obtain ⟨d', ed'⟩ := Option.isSome_iff_exists.1 hds'
    have hdd : d ≠ d' := by rintro rfl; exact hd (by rw [ed, ed'])
    split at hz
    · rename_i e he
      split at hz'
      · rename_i e' he'
        obtain ⟨z, ez⟩ := Option.isSome_iff_exists.1 hz
        obtain ⟨z', ez'⟩ := Option.isSome_iff_exists.1 hz'
        have aw : ∀ s, awanted ops.toList s o = true := fun s => by unfold awanted; rw [hg]
        have aw' : ∀ s, awanted ops.toList s o' = true := fun s => by unfold awanted; rw [hg']
        have hs : ∀ (s : ASt) (K : ASt → Prop), aopsO P M ops ms (k :: k' :: l) s K → ∀ b, s.h b = none → aopsO P M ops ms (k' :: l) ({ s with h := upd s.h b (some (z.map nl)) }.put (some d) (.ptr b 0)) K := fun s K h b hb => by
          rw [aopsO, h0] at h
          simp only [hk, aw, if_true] at h
          unfold aloud at h
          simp only [he, ez, ed] at h
          exact h b hb
        have hs' : ∀ (s : ASt) (K : ASt → Prop), aopsO P M ops ms (k' :: l) s K → ∀ b, s.h b = none → aopsO P M ops ms l ({ s with h := upd s.h b (some (z'.map nl)) }.put (some d') (.ptr b 0)) K := fun s K h b hb => by
          rw [aopsO, h0'] at h
          simp only [hk', aw', if_true] at h
          unfold aloud at h
          simp only [he', ez', ed'] at h
          exact h b hb
        have hnil : Region.ready md ops listed ≠ [] := by rcases hr with h | h <;> rw [h] <;> simp
        refine ⟨fun h => absurd h hnil, fun i hi => ?_⟩
        have hi2 : i = k ∨ i = k' := by
          rcases hr with h | h <;> rw [h] at hi <;> simp at hi <;> omega
        rcases hi2 with rfl | rfl
        · unfold qstep
          simp only [h0, hk, aw, if_true]
          unfold aloud
          simp only [he, ez, ed]
          exact fun b hb => IHk _ (hs s K h b hb)
        · unfold qstep
          simp only [h0', hk', aw', if_true]
          unfold aloud
          simp only [he', ez', ed']
          intro b' hb'
          refine ⟨fun h => by rw [hr'] at h; simp at h, fun j hj => ?_⟩
          rw [hr'] at hj
          simp at hj
          subst hj
          unfold qstep
          simp only [h0, hk, aw, if_true]
          unfold aloud
          simp only [he, ez, ed]
          intro b hb
          have hputh : ∀ (s : ASt) (d : Option Tmp) (x : AV), (s.put d x).h = s.h := fun s d x => by
            cases d with
            | none => rfl
            | some d => simp only [ASt.put, ASt.set]; split <;> rfl
          rw [hputh] at hb
          simp only [upd] at hb
          have hbb : b ≠ b' := by
            rintro rfl
            simp at hb
          rw [if_neg hbb] at hb
          have hfin := hs' _ K (hs s K h b hb) b' (by rw [hputh]; simp only [upd]; rw [if_neg (Ne.symm hbb)]; exact hb')
          rw [Array.setIfInBounds_comm _ _ (Ne.symm hkk)]
          refine IHl _ ?_
          have est : ({ { s with h := upd s.h b' (some (z'.map nl)) }.put (some d') (.ptr b' 0) with h := upd ({ s with h := upd s.h b' (some (z'.map nl)) }.put (some d') (.ptr b' 0)).h b (some (z.map nl)) }.put (some d) (.ptr b 0) : ASt) =
              { { s with h := upd s.h b (some (z.map nl)) }.put (some d) (.ptr b 0) with h := upd ({ s with h := upd s.h b (some (z.map nl)) }.put (some d) (.ptr b 0)).h b' (some (z'.map nl)) }.put (some d') (.ptr b' 0) := by
            refine ASt.ext' ?_ ?_ ?_
            · simp only [put_n]
            · funext i
              simp only [put_t, put_n]
              by_cases e1 : i = d
              · subst e1
                have : ¬ d' = i := fun h => hdd h.symm
                simp [this]
              · by_cases e2 : i = d'
                · subst e2
                  have : ¬ d = i := fun h => hdd h
                  simp [this]
                · have e1' : ¬ d = i := fun h => e1 h.symm
                  have e2' : ¬ d' = i := fun h => e2 h.symm
                  simp [e1', e2']
            · funext i
              simp only [hputh, upd]
              by_cases e1 : i = b
              · subst e1; simp [hbb]
              · by_cases e2 : i = b'
                · subst e2; simp [e1]
                · simp [e1, e2]
          rw [est]
          exact hfin
      · cases hz'
    · cases hz
  · cases ho
theorem aAny_ord {P : Program} {M : Msk} {md : Region.Mode} {ops : Array Oper} {ms : List Md} {K : ASt → Prop} : ∀ (l : List Nat) (listed : Array Bool) (s : ASt), lexO P md ops ms l listed = true → aopsO P M ops ms l s K → aAny P M md ops ms K l.length listed s
  | [], _, _, hB, h => ⟨by simpa [lexO] using hB, h⟩
  | k :: l, listed, s, hB, h => by
    simp only [List.length_cons, lexO, Bool.and_eq_true] at hB
    obtain ⟨hr, hB'⟩ := hB
    have hin : k ∈ Region.ready md ops listed := by
      cases hk : mdAt ms k <;> simp only [hk, Bool.and_eq_true] at hr
      · simpa using hr.1
      · rw [Bool.or_eq_true, beq_iff_eq] at hr
        rcases hr with hr | hr
        · rw [hr]; simp
        · cases l with
          | nil => cases hr
          | cons k' l =>
            simp only [pair2, Bool.and_eq_true, beq_iff_eq, Bool.or_eq_true] at hr
            rcases hr.1.1.2 with h | h <;> rw [h] <;> simp
      · rw [beq_iff_eq] at hr; rw [hr]; simp
      · simpa using hr.1
    obtain ⟨_, o, h0, _⟩ := mem_ready.1 hin
    have hfull := h
    simp only [aopsO, h0] at h
    have seq : Region.ready md ops listed = [k] → qstep P M ops ms k (aAny P M md ops ms K l.length (listed.setIfInBounds k true)) s → aAny P M md ops ms K (l.length + 1) listed s := fun hr' hq =>
      ⟨fun h => by rw [hr'] at h; simp at h, fun i hi => by
        rw [hr'] at hi
        simp at hi
        subst hi
        exact hq⟩
    have quiet : isQ (mdAt ms k) = true → ((Region.ready md ops listed).contains k && free2 P md ops ms listed k) = true →
        (if awanted ops.toList s o = true then aeff P (maskOf (mdAt ms k) M) ops.toList o s (fun e => aopsO P M ops ms l (e.app o.dst s) K) else aopsO P M ops ms l (s.put o.dst (.v undef)) K) →
        aAny P M md ops ms K (l.length + 1) listed s := by
      intro hk hr h
      simp only [Bool.and_eq_true] at hr
      obtain ⟨hr, hf⟩ := hr
      have hfree : ∀ j oj, ops[j]? = some oj → j ≠ k → listed.getD j true = false → (∀ e ∈ oj.after, Region.binds md e = true → e.on ≠ k) → (∀ e ∈ oj.after, Region.binds md e = true → listed.getD e.on true = false → ∀ om, ops[e.on]? = some om → ∀ e2 ∈ om.after, Region.binds md e2 = true → e2.on ≠ k) → (isQ (mdAt ms j) = true ∧ apart2 P ops o oj = true) ∨ ((mdAt ms j = .l ∧ mdAt ms k = .q) ∧ o.apart ops oj = true) ∨ (mdAt ms j = .s ∧ (still oj.op = true ∧ memless o.op = true) ∧ o.apart ops oj = true) := by
        intro j oj hj hne hun hno hno2
        simp only [free2, h0, List.all_eq_true, List.mem_range] at hf
        have h1 := hf j (Array.getElem?_eq_some_iff.1 hj).1
        simp only [hj, Bool.or_eq_true, beq_iff_eq, hne, false_or, hun, Bool.false_eq_true] at h1
        rcases h1 with (h1 | h1) | h1
        · obtain ⟨e, he, hb⟩ := Array.any_eq_true'.1 h1
          simp only [Bool.and_eq_true, beq_iff_eq] at hb
          exact absurd hb.2 (hno e he hb.1)
        · obtain ⟨e, he, hb⟩ := Array.any_eq_true'.1 h1
          simp only [Bool.and_eq_true, Bool.not_eq_true'] at hb
          obtain ⟨⟨hb1, hb2⟩, hb3⟩ := hb
          split at hb3
          · rename_i om hom
            obtain ⟨e2, he2, hb4⟩ := Array.any_eq_true'.1 hb3
            simp only [Bool.and_eq_true, beq_iff_eq] at hb4
            exact absurd hb4.2 (hno2 e he hb1 hb2 om hom e2 he2 hb4.1)
          · cases hb3
        · cases hmj : mdAt ms j with
          | q => rw [hmj] at h1; exact .inl ⟨rfl, h1⟩
          | r => rw [hmj] at h1; exact .inl ⟨rfl, h1⟩
          | l =>
            rw [hmj] at h1
            simp only [Bool.and_eq_true, beq_iff_eq] at h1
            exact .inr (.inl ⟨⟨rfl, h1.1⟩, h1.2⟩)
          | s =>
            rw [hmj] at h1
            simp only [Bool.and_eq_true] at h1
            exact .inr (.inr ⟨rfl, ⟨h1.1.1, h1.1.2⟩, h1.2⟩)
      by_cases hw : awanted ops.toList s o = true
      · simp only [hw, if_true] at h
        obtain ⟨e, he, hK⟩ := aeff_some h
        exact aAny_first h0 hk l.length listed s hfree (by simpa using hr) (.inl ⟨hw, he⟩) (aAny_ord l _ _ hB' hK)
      · simp only [hw] at h
        refine aAny_first h0 hk l.length listed s hfree (by simpa using hr) (.inr ⟨by simpa using hw, rfl⟩) (aAny_ord l _ _ hB' ?_)
        rw [← put_undef]; exact h
    cases hk : mdAt ms k with
    | q =>
      simp only [hk] at hr h
      exact quiet (by rw [hk]; rfl) hr (by rw [hk]; exact h)
    | r =>
      simp only [hk] at hr h
      exact quiet (by rw [hk]; rfl) hr (by rw [hk]; exact h)
    | l =>
      simp only [hk, Bool.or_eq_true, beq_iff_eq] at hr h
      rcases hr with hr | hr
      rotate_left
      · cases l with
        | nil => cases hr
        | cons k' l2 =>
          have hB2 : lexO P md ops ms l2 ((listed.setIfInBounds k true).setIfInBounds k' true) = true := by
            simp only [lexO, Bool.and_eq_true] at hB'
            exact hB'.2
          exact aAny_pair hr hfull (fun s' hs' => aAny_ord (k' :: l2) _ _ hB' hs') (fun s' hs' => aAny_ord l2 _ _ hB2 hs')
      refine seq (by simpa using hr) ?_
      unfold qstep
      simp only [h0, hk]
      split
      · rename_i hw
        simp only [hw, if_true] at h
        exact aloud_mono (fun s' hs' => aAny_ord l _ _ hB' hs') h
      · rename_i hw
        simp only [hw] at h
        exact aAny_ord l _ _ hB' h
    | s =>
      simp only [hk] at hr h
      refine seq (by simpa using hr) ?_
      unfold qstep
      simp only [h0, hk]
      split
      · rename_i hw
        simp only [hw, if_true] at h
        exact aop_mono (fun s' hs' => aAny_ord l _ _ hB' hs') h
      · rename_i hw
        simp only [hw] at h
        exact aAny_ord l _ _ hB' h
termination_by l => l.length

end Go.Rw
