/- Parts of the proof: what is used by the law. No condition. -/
import Derived.Test.YtjbbfiagijjdoaaGreatRwN
set_option linter.unusedSimpArgs false
set_option linter.unusedVariables false
/- From a walk over abstract states to a contract. No condition. -/
set_option linter.unusedSimpArgs false
set_option linter.unusedVariables false
namespace Go.Rw

/-- the slots when a call begins -/
def enterSt (ntmps : Nat) (args : List AV) : ASt :=
  { n := args.length + (ntmps - args.length), t := fun i => match args[i]? with | some x => dead1 x | none => .v undef, h := fun _ => none }

/-- is the function one that has a body and is entered? -/
def callT (P : Program) (f : FuncId) : Bool :=
  match P.funcs[f]? with
  | some fn => !(fn.name == "runtime.NumGoroutine") && fn.body.isSome
  | none => false

def resAV (P : Program) (s : ASt) : ResultVar → Option AV
  | .tmp t => some (s.t t)
  | .cell a ty => aload P s.h ty (s.t a)

def resAll (P : Program) (s : ASt) : List ResultVar → Option (List AV)
  | [] => some []
  | r :: rs => match resAV P s r with
    | none => none
    | some x => (resAll P s rs).map (dead1 x :: ·)

/-- what the call answers -/
def ARes (P : Program) (rs : List ResultVar) (s : ASt) (R : AV → Prop) : Prop :=
  match rs with
  | [r] => match resAV P s r with
    | some x => R x
    | none => False
  | rs => match resAll P s rs with
    | some xs => R (.tup xs)
    | none => False

def endQ (P : Program) (rs : List ResultVar) (R : AV → Prop) (e : AExit) (s : ASt) : Prop :=
  match e with
  | .normal => ARes P rs s R
  | .ret => ARes P rs s R
  | .exit _ => False

/-- the same, looked at in another way first -/
def endQS (P : Program) (rs : List ResultVar) (R : AV → Prop) (e : AExit) (s : ASt) : Prop :=
  match e with
  | .normal => Shift s fun s => ARes P rs s R
  | .ret => Shift s fun s => ARes P rs s R
  | .exit _ => False

section
variable {P : Program} {B : Nat} {F : Nat → Prop} {w0 : World} {I0 : Imm} {s : ASt} {G : Ghost} {a : Act} {w : World}

/-- a result read at the call's end -/
def resRun (tmps : Array Value) : ResultVar → Sem Value
  | .tmp t => pure (tmps.getD t undef)
  | .cell ad t => do loadVar t (← asAddr (tmps.getD ad undef))

theorem results_eq (fn : Func) (tmps : Array Value) : results fn tmps = (do
    let vs ← fn.results.mapM (resRun tmps)
    pure (if h : vs.size = 1 then vs[0] else .tuple vs)) := by
  exact congrArg (fun q : ResultVar → Sem Value => (do
    let vs ← fn.results.mapM q
    pure (if h : vs.size = 1 then vs[0] else .tuple vs) : Sem Value)) (funext fun x => by cases x <;> rfl)

theorem resAV_sound (r : Rel B F w0 I0 s G a w) {v : ResultVar} {x : AV} (h : resAV P s v = some x) :
    ∃ y, (resRun a.tmps v).run P w = .ok y w ∧ Rep G.imm x y ∧
      (∀ t, v = .tmp t → LiveOK G w (.slot t) x y) ∧ (∀ ad t, v = .cell ad t → dead1 x = x) := by
  cases v with
  | tmp t =>
    simp only [resAV, Option.some.injEq] at h
    subst h
    exact ⟨a.tmps.getD t undef, rfl, (r.tmps t).1, fun t' ht => by injection ht with ht; subst ht; exact (r.tmps t).2, fun _ _ h => by simp at h⟩
  | cell ad ty =>
    simp only [resAV] at h
    obtain ⟨y, hy, hrep⟩ := aload_sound (P := P) r.hrel (r.tmps ad).1 h
    refine ⟨y, ?_, hrep, fun t ht => by simp at ht, fun _ _ _ => ?_⟩
    · have has : ∀ z, (Instr.loadAt ty z).run P w = .ok y w → (do loadVar ty (← asAddr z) : Sem Value).run P w = .ok y w := by
        intro z hz
        cases z with
        | pointer p =>
          cases p with
          | some q => simpa [Instr.loadAt, Instr.sureAddr, asAddr] using hz
          | none => simp [Instr.loadAt, Instr.sureAddr] at hz
        | _ => simp [Instr.loadAt, Instr.sureAddr] at hz
      exact has _ hy
    · unfold aload at h
      split at h
      · simp at h
      · split at h
        · exact cellsAt_dead h
        · split at h
          · exact cellsAt_dead h
          · simp at h
        · simp at h

theorem resAll_sound (r : Rel B F w0 I0 s G a w) : ∀ {vs : List ResultVar} {xs : List AV}, resAll P s vs = some xs →
    ∃ ys : List Value, (vs.mapM (resRun a.tmps)).run P w = .ok ys w ∧ Reps G.imm xs ys
  | [], xs, h => by
    simp only [resAll, Option.some.injEq] at h
    subst h
    exact ⟨[], rfl, rfl, by simp⟩
  | v :: vs, xs, h => by
    simp only [resAll] at h
    cases hv : resAV P s v with
    | none => simp [hv] at h
    | some x =>
      cases hr : resAll P s vs with
      | none => simp [hv, hr] at h
      | some xs' =>
        simp [hv, hr] at h
        subst h
        obtain ⟨y, hy, hrep, _⟩ := resAV_sound r hv
        obtain ⟨ys, hys, hreps⟩ := resAll_sound r hr
        refine ⟨y :: ys, ?_, by simp [hreps.1], fun j p q hp hq => ?_⟩
        · simp only [List.mapM_cons, Sem.run_bind, hy, Result.andThen_ok, hys, Sem.run_pure]
        · cases j with
          | zero => simp at hp hq; subst hp; subst hq; exact hrep.dead
          | succ j => exact hreps.2 j p q (by simpa using hp) (by simpa using hq)

theorem enter_rel {I : Imm} {w : World} {args : List AV} {cargs : List Value} (hI : ∀ b i v, I b i = some v → w.cell? ⟨b, i, none⟩ = some v) (ha : Reps I args cargs) (n : Nat) :
    Rel w.heap.size (fun _ => False) w I (enterSt n args) { imm := I, own := fun _ => none } { tmps := cargs.toArray ++ Array.replicate (n - cargs.toArray.size) undef, defers := [] } w where
  hrel := ⟨hI, fun b cells h => by simp [enterSt] at h, fun b h => by simp at h, fun b o h => by simp at h⟩
  size := by simp [enterSt, ha.1]
  tmps := fun i => by
    simp only [enterSt, Array.getD_eq_getD_getElem?, Array.getElem?_append, List.size_toArray, List.getElem?_toArray]
    by_cases hi : i < cargs.length
    · have hi' : i < args.length := by rw [ha.1]; exact hi
      simp only [hi, if_true, List.getElem?_eq_getElem hi', List.getElem?_eq_getElem hi, Option.getD_some]
      exact ⟨(ha.2 i _ _ (by simp [hi']) (by simp [hi])).dead, LiveOK.dead _ _⟩
    · have hi' : args[i]? = none := List.getElem?_eq_none (by rw [ha.1]; omega)
      simp only [hi, if_false, hi']
      have : ((Array.replicate (n - cargs.length) undef)[i - cargs.length]?).getD undef = undef := by
        rw [Array.getElem?_replicate]; split <;> rfl
      rw [this]
      exact ⟨.v _, trivial⟩
  defers := rfl
  below := fun _ _ _ => rfl
  base := Nat.le_refl _
  ownB := fun b o h => by simp at h
  immB := fun _ _ _ => rfl
  sub0 := Sub.refl _
  calm := Calm.refl _

theorem callFunc_run {f : FuncId} (h : callT P f = true) (args : Array Value) (w : World) : (callFunc f args).run P w = .ok (.enter f args) w := by
  unfold callT at h
  split at h
  · rename_i fn hfn
    simp only [Bool.and_eq_true, Bool.not_eq_true'] at h
    have hn : fn.body.isNone = false := by cases hb : fn.body <;> simp_all
    unfold callFunc
    simp only [Sem.run_bind, run_program, Result.andThen_ok, hfn, h.1, hn, Bool.false_eq_true, if_false, Sem.run_pure]
  · simp at h

theorem ASpec.of_awpS {f : FuncId} {fn : Func} {c : Code} {args : List AV} {R : AV → Prop} {rs : List ResultVar} {n : Nat} (hf : P.funcs[f]? = some fn) (hc : callT P f = true) (hb : fn.body = some c) (hr : fn.results.toList = rs) (hn : fn.ntmps = n)
    (h : awp P c (endQS P rs R) (enterSt n args)) : ASpec P f args R := by
  intro I w cargs hI ha
  rw [callFunc_run hc]
  subst hr; subst hn
  refine calls_of_wp hf hb (Code.wp_mono (fun e a' w' ⟨ae, s', G', he, hq, r', hn'⟩ => ?_) (awp_sound c _ _ _ _ w (enter_rel hI ha fn.ntmps) rfl h))
  subst he
  have key : ∀ s' G', Rel w.heap.size (fun _ => False) w I s' G' a' w' → ARes P fn.results.toList s' R → a'.defers = [] ∧ ∃ v, (results fn a'.tmps).run P w' = .ok v w' ∧
      ∃ v_1 r I', Ending.returned v = .returned v_1 ∧ R r ∧ Ext w I w' I' ∧ Rep I' r v_1 ∧ FreshOK w.heap.size I' w' r v_1 := by
    clear hq r' s' G'
    intro s' G' r' hq
    have hext : Ext w I w' G'.imm := ⟨fun b hb => r'.below b hb (by simp), r'.base, fun b hb => r'.immB b hb (by simp), r'.hrel.imm, r'.calm⟩
    refine ⟨r'.defers, ?_⟩
    unfold ARes at hq
    split at hq
    · rename_i v hv
      split at hq
      · rename_i x hx
        obtain ⟨y, hy, hrep, hl, hd⟩ := resAV_sound r' hx
        have hfr : fn.results = #[v] := by rw [← Array.toArray_toList (xs := fn.results), hv]
        refine ⟨y, ?_, y, x, G'.imm, rfl, hq, hext, hrep, ?_⟩
        · simp [results_eq, hfr, Array.mapM_eq_mapM_toList, hy]
        · cases v with
          | tmp t =>
            have := hl t rfl
            cases x with
            | sl tag rows =>
              cases tag with
              | live e sz pu =>
                rcases this with h1 | ⟨g, cap, cur, T, h2, h3, h4⟩
                · exact .inl h1
                · refine .inr ⟨g, cap, cur, T, h2, ?_, h4⟩
                  rcases r'.ownB g _ h3 with h5 | h5
                  · exact h5
                  · exact h5.elim
              | full => exact this
              | _ => trivial
            | ob m g ob =>
              refine ⟨?_, this.2⟩
              rcases r'.ownB g _ this.1 with h5 | h5
              · exact h5
              · exact h5.elim
            | _ => trivial
          | cell ad ty =>
            have := hd ad ty rfl
            cases x with
            | sl tag rows => cases tag <;> first | trivial | (simp [dead1] at this)
            | ob m g ob => simp [dead1] at this
            | _ => trivial
      · exact hq.elim
    · rename_i hne
      split at hq
      · rename_i xs hxs
        obtain ⟨ys, hys, hreps⟩ := resAll_sound r' hxs
        refine ⟨.tuple ys.toArray, ?_, _, .tup xs, G'.imm, rfl, hq, hext, .tup ys hreps.1 hreps.2, trivial⟩
        have hlen : ys.length = fn.results.toList.length := by
          have hl : ∀ (vs : List ResultVar) (xs : List AV), resAll P s' vs = some xs → xs.length = vs.length := by
            intro vs
            induction vs with
            | nil => intro xs h; simp [resAll] at h; subst h; rfl
            | cons v vs ih =>
              intro xs h
              simp only [resAll] at h
              cases hv : resAV P s' v with
              | none => simp [hv] at h
              | some x =>
                cases hr : resAll P s' vs with
                | none => simp [hv, hr] at h
                | some xs' => simp [hv, hr] at h; subst h; simp [ih xs' hr]
          rw [← hreps.1, hl _ _ hxs]
        have hne1 : ¬ ys.toArray.size = 1 := by
          intro h1
          simp at h1
          rw [h1] at hlen
          cases hq2 : fn.results.toList with
          | nil => rw [hq2] at hlen; simp at hlen
          | cons v rest =>
            cases rest with
            | nil => exact hne v hq2
            | cons v2 rest => rw [hq2] at hlen; simp at hlen
        simp only [results_eq, Array.mapM_eq_mapM_toList, Sem.run_bind, Sem.run_map, hys, Result.andThen_ok, Sem.run_pure]
        rw [dif_neg hne1]
      · exact hq.elim
  cases ae with
  | normal =>
    obtain ⟨s1, G1, h1, r1⟩ := hq _ _ _ _ _ _ _ r'
    exact key s1 G1 r1 h1
  | exit id => exact hq.elim
  | ret =>
    obtain ⟨s1, G1, h1, r1⟩ := hq _ _ _ _ _ _ _ r'
    exact key s1 G1 r1 h1

/-! ### functions that write objects handed over to them -/
def enterStH (ntmps : Nat) (args : List AV) (h : Nat → Option (List AV)) : ASt :=
  { n := args.length + (ntmps - args.length), t := fun i => match args[i]? with | some x => dead1 x | none => .v undef, h := h }

def endH (P : Program) (rs : List ResultVar) (R : AV → (Nat → Option (List AV)) → Prop) (e : AExit) (s : ASt) : Prop :=
  match e with
  | .normal => ARes P rs s (fun x => ∃ h', SubH h' s.h ∧ R x h')
  | .ret => ARes P rs s (fun x => ∃ h', SubH h' s.h ∧ R x h')
  | .exit _ => False

/-- the same, looked at in another way first -/
def endHS (P : Program) (rs : List ResultVar) (R : AV → (Nat → Option (List AV)) → Prop) (e : AExit) (s : ASt) : Prop :=
  match e with
  | .normal => Shift s fun s => ARes P rs s (fun x => ∃ h', SubH h' s.h ∧ R x h')
  | .ret => Shift s fun s => ARes P rs s (fun x => ∃ h', SubH h' s.h ∧ R x h')
  | .exit _ => False

theorem enter_relH {G : Ghost} {w : World} {h : Nat → Option (List AV)} {args : List AV} {cargs : List Value} (hG : HRel h G w) (ha : Reps G.imm args cargs) (n : Nat) :
    Rel w.heap.size (fun b => G.own b ≠ none) w G.imm (enterStH n args h) G { tmps := cargs.toArray ++ Array.replicate (n - cargs.toArray.size) undef, defers := [] } w where
  hrel := hG
  size := by simp [enterStH, ha.1]
  tmps := fun i => by
    simp only [enterStH, Array.getD_eq_getD_getElem?, Array.getElem?_append, List.size_toArray, List.getElem?_toArray]
    by_cases hi : i < cargs.length
    · have hi' : i < args.length := by rw [ha.1]; exact hi
      simp only [hi, if_true, List.getElem?_eq_getElem hi', List.getElem?_eq_getElem hi, Option.getD_some]
      exact ⟨(ha.2 i _ _ (by simp [hi']) (by simp [hi])).dead, LiveOK.dead _ _⟩
    · have hi' : args[i]? = none := List.getElem?_eq_none (by rw [ha.1]; omega)
      simp only [hi, if_false, hi']
      have : ((Array.replicate (n - cargs.length) undef)[i - cargs.length]?).getD undef = undef := by
        rw [Array.getElem?_replicate]; split <;> rfl
      rw [this]
      exact ⟨.v _, trivial⟩
  defers := rfl
  below := fun _ _ _ => rfl
  base := Nat.le_refl _
  ownB := fun b o h => .inr (by rw [h]; simp)
  immB := fun _ _ _ => rfl
  sub0 := Sub.refl _
  calm := Calm.refl _

/-- the slots are gone -/
def leave (G : Ghost) : Ghost := { G with own := fun g => match G.own g with | some (.slot _) => none | o => o }

theorem leave_own {G : Ghost} {g : Nat} {o : Own} (h : (leave G).own g = some o) : G.own g = some o := by
  unfold leave at h
  simp only at h
  split at h
  · simp at h
  · exact h
theorem leave_keep {G : Ghost} {g : Nat} {o : Own} (h : G.own g = some o) (ho : ∀ i, o ≠ .slot i) : (leave G).own g = some o := by
  unfold leave
  simp only [h]
  split
  · rename_i i hi; injection hi with hi; exact absurd hi (ho i)
  · rfl
theorem leave_slot {G : Ghost} {g i : Nat} (h : G.own g = some (.slot i)) : (leave G).own g = none := by
  simp [leave, h]
theorem leave_none {G : Ghost} {g : Nat} (h : G.own g = none) : (leave G).own g = none := by
  simp [leave, h]

theorem HRel.leave {h : Nat → Option (List AV)} {G : Ghost} {w : World} (r : HRel h G w) : HRel h (leave G) w where
  imm := r.imm
  obj := fun b cells hb => by
    obtain ⟨ho, arr, T, h1, h2, h3⟩ := r.obj b cells hb
    refine ⟨leave_keep ho (by simp), arr, T, h1, h2, fun j x y hx hy => ⟨(h3 j x y hx hy).1, ?_⟩⟩
    have hl := (h3 j x y hx hy).2
    cases x with
    | sl tag rows =>
      cases tag with
      | live e sz pu =>
        rcases hl with hl | ⟨k, cap, cur, T, hy', ho', hi, hpu, hh, hc⟩
        · exact .inl hl
        · exact .inr ⟨k, cap, cur, T, hy', leave_keep ho' (by simp), hi, hpu, hh, hc⟩
      | full => exact hl
      | _ => trivial
    | ob m k ob => exact ⟨leave_keep hl.1 (by simp), hl.2⟩
    | _ => trivial
  excl := fun b ho i => r.excl b (leave_own ho) i
  own := fun b o ho => r.own b o (leave_own ho)

theorem HRel.sub {h H : Nat → Option (List AV)} {G : Ghost} {w : World} (r : HRel H G w) (hs : SubH h H) : HRel h G w where
  imm := r.imm
  obj := fun b cells hb => by
    obtain ⟨d, hd, hw⟩ := hs b cells hb
    obtain ⟨ho, arr, T, h1, h2, h3⟩ := r.obj b d hd
    refine ⟨ho, arr, T, h1, by rw [h2, hw.length], fun j x y hx hy => ?_⟩
    obtain ⟨x0, hx0, hor⟩ := hw.get j x hx
    obtain ⟨hr, hl⟩ := h3 j x0 y hx0 hy
    rcases hor with rfl | rfl
    · exact ⟨hr, hl⟩
    · exact ⟨hr.dead, LiveOK.dead _ _⟩
  excl := r.excl
  own := r.own

theorem MSpec.of_awpS {f : FuncId} {fn : Func} {c : Code} {args : List AV} {h : Nat → Option (List AV)} {R : AV → (Nat → Option (List AV)) → Prop} {rs : List ResultVar} {n : Nat} (hf : P.funcs[f]? = some fn) (hc : callT P f = true) (hb : fn.body = some c) (hr : fn.results.toList = rs) (hn : fn.ntmps = n)
    (hh : awp P c (endHS P rs R) (enterStH n args h)) : MSpec P f args h R := by
  intro G w cargs hI hno ha
  rw [callFunc_run hc]
  subst hr; subst hn
  refine calls_of_wp hf hb (Code.wp_mono (fun e a' w' ⟨ae, s', G', he, hq, r', hn'⟩ => ?_) (awp_sound c _ _ _ _ w (enter_relH hI ha fn.ntmps) rfl hh))
  subst he
  have hnF : ∀ b, G.own b = none → ¬ G.own b ≠ none := fun b h1 h2 => h2 h1
  have key : ∀ s' G', Rel w.heap.size (fun b => G.own b ≠ none) w G.imm s' G' a' w' → ARes P fn.results.toList s' (fun x => ∃ h', SubH h' s'.h ∧ R x h') → a'.defers = [] ∧ ∃ v, (results fn a'.tmps).run P w' = .ok v w' ∧
      ∃ v_1 r h' G', Ending.returned v = .returned v_1 ∧ R r h' ∧ HRel h' G' w' ∧ NoSlot G' ∧ Turned G w G' w' ∧ Rep G'.imm r v_1 ∧ HandOK (fun g => w.heap.size ≤ g ∨ G.own g ≠ none) G' w' r v_1 := by
    clear hq r' s' G'
    intro s' G' r' hq
    have htu : Turned G w (leave G') w' := by
      refine ⟨r'.base, fun b hb ho => r'.below b hb (hnF b ho), fun b hb ho => r'.immB b hb (hnF b ho), r'.sub0, fun b hb ho => ?_, r'.calm⟩
      cases hq : G'.own b with
      | none => exact leave_none hq
      | some o =>
        rcases r'.ownB b o hq with h1 | h1
        · omega
        · exact absurd ho h1
    have hns : NoSlot (leave G') := fun g i ho => by
      have h1 := leave_own ho
      rw [leave_slot h1] at ho; simp at ho
    refine ⟨r'.defers, ?_⟩
    unfold ARes at hq
    split at hq
    · rename_i v hv
      split at hq
      · rename_i x hx
        obtain ⟨y, hy, hrep, hl, hd⟩ := resAV_sound r' hx
        have hfr : fn.results = #[v] := by rw [← Array.toArray_toList (xs := fn.results), hv]
        obtain ⟨h', hsub, hq⟩ := hq
        refine ⟨y, ?_, y, x, h', leave G', rfl, hq, r'.hrel.leave.sub hsub, hns, htu, hrep, ?_⟩
        · simp [results_eq, hfr, Array.mapM_eq_mapM_toList, hy]
        · cases v with
          | tmp t =>
            have := hl t rfl
            cases x with
            | sl tag rows =>
              cases tag with
              | live e sz pu =>
                rcases this with h1 | ⟨g, cap, cur, T, h2, h3, h4⟩
                · exact .inl h1
                · exact .inr ⟨g, cap, cur, T, h2, leave_slot h3, r'.ownB g _ h3, h4⟩
              | full => exact this
              | _ => trivial
            | ob m g ob => exact ⟨leave_slot this.1, r'.ownB g _ this.1, this.2⟩
            | _ => trivial
          | cell ad ty =>
            have := hd ad ty rfl
            cases x with
            | sl tag rows => cases tag <;> first | trivial | (simp [dead1] at this)
            | ob m g ob => simp [dead1] at this
            | _ => trivial
      · exact hq.elim
    · rename_i hne
      split at hq
      · rename_i xs hxs
        obtain ⟨ys, hys, hreps⟩ := resAll_sound r' hxs
        obtain ⟨h', hsub, hq⟩ := hq
        refine ⟨.tuple ys.toArray, ?_, _, .tup xs, h', leave G', rfl, hq, r'.hrel.leave.sub hsub, hns, htu, .tup ys hreps.1 hreps.2, trivial⟩
        have hlen : ys.length = fn.results.toList.length := by
          have hl : ∀ (vs : List ResultVar) (xs : List AV), resAll P s' vs = some xs → xs.length = vs.length := by
            intro vs
            induction vs with
            | nil => intro xs h; simp [resAll] at h; subst h; rfl
            | cons v vs ih =>
              intro xs h
              simp only [resAll] at h
              cases hv : resAV P s' v with
              | none => simp [hv] at h
              | some x =>
                cases hr : resAll P s' vs with
                | none => simp [hv, hr] at h
                | some xs' => simp [hv, hr] at h; subst h; simp [ih xs' hr]
          rw [← hreps.1, hl _ _ hxs]
        have hne1 : ¬ ys.toArray.size = 1 := by
          intro h1
          simp at h1
          rw [h1] at hlen
          cases hq2 : fn.results.toList with
          | nil => rw [hq2] at hlen; simp at hlen
          | cons v rest =>
            cases rest with
            | nil => exact hne v hq2
            | cons v2 rest => rw [hq2] at hlen; simp at hlen
        simp only [results_eq, Array.mapM_eq_mapM_toList, Sem.run_bind, Sem.run_map, hys, Result.andThen_ok, Sem.run_pure]
        rw [dif_neg hne1]
      · exact hq.elim
  cases ae with
  | normal =>
    obtain ⟨s1, G1, h1, r1⟩ := hq _ _ _ _ _ _ _ r'
    exact key s1 G1 r1 h1
  | exit id => exact hq.elim
  | ret =>
    obtain ⟨s1, G1, h1, r1⟩ := hq _ _ _ _ _ _ _ r'
    exact key s1 G1 r1 h1

end
end Go.Rw
