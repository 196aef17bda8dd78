/- Parts of the proof: what is used by the law. No condition. -/
import Derived.Test.YtjbbfiagijjdoaaGreatRwM
import Derived.Deep.Quiet
set_option linter.unusedSimpArgs false
set_option linter.unusedVariables false
/- The weakest precondition over abstract states, and that it is right. No condition. -/
set_option linter.unusedSimpArgs false
set_option linter.unusedVariables false
namespace Go.Rw

inductive AExit where
  | normal
  | exit (id : Nat)
  | ret

def AExit.toExit : AExit → Exit
  | .normal => .normal
  | .exit id => .exit id
  | .ret => .ret

def isLoud : Op → Bool
  | .store .. | .alloc .. | .box .. => true
  | _ => false

def adraw (P : Program) (ops : Array Oper) (s : ASt) (K : ASt → Prop) : Prop :=
  (∃ (M : Msk) (ms : List Md), (P.follows .mixedOrders = true ∧ lexD P .any ops ms ops.size 0 (Array.replicate ops.size false) = true) ∧ aopsD P M ops ms 0 ops.toList s K) ∨
  ∃ (M : Msk) (ms : List Md) (l : List Nat), (P.follows .mixedOrders = true ∧ l.length = ops.size ∧ lexO P .any ops ms l (Array.replicate ops.size false) = true) ∧ aopsO P M ops ms l s K

def awp (P : Program) : Code → (AExit → ASt → Prop) → ASt → Prop
  | .skip, Q, s => Q .normal s
  | .region _ ops draw, Q, s => if draw = true then adraw P ops s (Q .normal) else aops P ops.toList ops.toList s (Q .normal)
  | .seq x y, Q, s => awp P x (fun e s' => match e with | .normal => awp P y Q s' | e => Q e s') s
  | .cond c x y, Q, s => match s.ev c with
    | .v (.bool b) => if b = true then awp P x Q s else awp P y Q s
    | _ => False
  | .block id c, Q, s => awp P c (fun e s' => match e with | .exit id' => if id' = id then Q .normal s' else Q (.exit id') s' | e => Q e s') s
  | .loop c, Q, s => ∃ (Inv : ASt → Prop) (μ : ASt → Nat), Shift s Inv ∧
      ∀ s', s'.n = s.n → Inv s' → awp P c (fun e s'' => match e with | .normal => Inv s'' ∧ μ s'' < μ s' | e => Q e s'') s'
  | .exit id, Q, s => Q (.exit id) s
  | .ret, Q, s => Q .ret s
  | _, _, _ => False

section
variable {P : Program} {B : Nat} {F : Nat → Prop} {w0 : World} {I0 : Imm} {s : ASt} {G : Ghost} {a : Act} {w : World}

/-- what holds of abstract exits holds of Go's -/
def lift (B : Nat) (F : Nat → Prop) (w0 : World) (I0 : Imm) (N : Nat) (Q : AExit → ASt → Prop) (e : Exit) (a : Act) (w : World) : Prop :=
  ∃ ae s G, e = ae.toExit ∧ Q ae s ∧ Rel B F w0 I0 s G a w ∧ a.tmps.size = N

theorem aval_mask {M : Msk} {h : Nat → Option (List AV)} {ev : Operand → AV} {op : Op} {x : AV} (ha : aval P ev (maskH M h) op = some x) : aval P ev h op = some x := by
  cases op with
  | load t y =>
    have ha' : aload P (maskH M h) t (ev y) = some x := ha
    show aload P h t (ev y) = some x
    unfold aload at ha' ⊢
    cases hv : vT P t with
    | none => simp [hv] at ha'
    | some n =>
      simp only [hv] at ha' ⊢
      cases hq : ev y with
      | ptr b off =>
        simp only [hq] at ha' ⊢
        cases hb : maskH M h b with
        | none => simp [hb] at ha'
        | some cells => simp only [hb] at ha'; simp only [(maskH_some hb).1]; exact ha'
      | ea row off => simp only [hq] at ha' ⊢; exact ha'
      | _ => simp [hq] at ha'
  | makeFunc fn f c => cases fn <;> exact ha
  | slice t x lo hi mx => cases mx <;> exact ha
  | _ => exact ha

theorem aeff_sound {M : Msk} {ops : List Oper} {o : Oper} {K : ASt → Prop} {Q : Exit → Act → World → Prop} (r : Rel B F w0 I0 s G a w) (h : aeff P M ops o s (fun e => K (e.app o.dst s))) :
    o.wp P a w (At B F w0 I0 a.tmps.size K) Q := by
  have hevd : ∀ x, Rep G.imm (s.evd x) (a.eval x) := fun x => (r.ev x).dead
  have value : ∀ {x : AV}, aval P s.evd (maskH M s.h) o.op = some x → K ((Eff.val (dead1 x)).app o.dst s) → o.wp P a w (At B F w0 I0 a.tmps.size K) Q := fun ha hk => by
    have ha := aval_mask ha
    rw [app_val'] at hk
    obtain ⟨v, w', I', hrun, hext, hrep, hst⟩ := aval_sound (P := P) (ρ := a.eval) r.hrel (fun y _ => hevd y) ha
    exact Oper.wp_value hrun ⟨_, _, hk, still_put r hext hrep.dead (Still.dead _ _), put_size _ _ _⟩
  have value2 : ∀ {x : AV}, aval P s.evd (maskH M s.h) o.op = some x → K ((Eff.val x).app o.dst s) → o.wp P a w (At B F w0 I0 a.tmps.size K) Q := fun ha hk => by
    have ha := aval_mask ha
    rw [app_val'] at hk
    obtain ⟨v, w', I', hrun, hext, hrep, hst⟩ := aval_sound (P := P) (ρ := a.eval) r.hrel (fun y _ => hevd y) ha
    exact Oper.wp_value hrun ⟨_, _, hk, still_put r hext hrep hst, put_size _ _ _⟩
  obtain ⟨dst, op, type, pos, after, guard⟩ := o
  simp only at value value2
  cases op with
  | move x =>
    cases x with
    | tmp t =>
      refine aop_sound (ops := ops) r ?_
      simp only [aeff] at h
      simp only [aop]
      split at h
      · rename_i hf; rw [if_pos hf]; rw [app_hand'] at h; exact h
      · rename_i hf; rw [if_neg hf]; rw [app_val'] at h; exact h
    | _ =>
      simp only [aeff, keepQ] at h
      split at h
      · rename_i q hq; exact value hq h
      · exact h.elim
  | call c =>
    obtain ⟨callee, args, argTypes⟩ := c
    simp only [aeff] at h
    cases callee with
    | value f =>
      simp only at h
      split at h
      · rename_i g cap hev
        obtain ⟨x, hspec, hk⟩ := h
        have hf := hevd f
        rw [hev] at hf
        generalize hy : a.eval f = y at hf
        cases hf with
        | fn cs hl hr =>
          have hreps := cell_reps (args_reps r args.toList) cap cs ⟨hl, hr⟩
          have hrun : (execOp a.eval ⟨dst, .call ⟨.value f, args, argTypes⟩, type, pos, after, guard⟩).run P w = (callFunc g (args.toList.map a.eval ++ cs).toArray).run P w := by
            simp only [execOp, resolve, hy, Deferred.ofValue, Sem.run_bind, Sem.run_pure, Result.andThen_ok, invoke]
            congr 2
            simp
          refine NextUpon.wp hrun (hspec G.imm w _ r.hrel.imm hreps) fun e w' ⟨v, q, I', he, hR, hext, hrep, hfr⟩ => ⟨v, he, ?_⟩
          subst hR
          rw [app_val'] at hk
          exact ⟨_, _, hk, still_put r (o := ⟨dst, .call ⟨.value f, args, argTypes⟩, type, pos, after, guard⟩) hext hrep.dead (Still.dead _ _), put_size _ _ _⟩
      · exact h.elim
    | invoke rv m => exact h.elim
    | builtin b =>
      by_cases hb : b = .append
      · subst hb
        refine aop_sound (ops := ops) r ?_
        simp only at h
        simp only [aop]
        split at h
        · rename_i tx y t t' hargs hts
          split at h
          · rename_i tag rows tag2 rows2 e htx hev hsl
            obtain ⟨h1, h2, h3, h4, h5⟩ := h
            have hy : ∃ tag3, s.ev y = .sl tag3 rows2 := by
              unfold ASt.evd at hev
              cases hq : s.ev y with
              | sl tg rw' => rw [hq] at hev; simp at hev; exact ⟨tg, by rw [hev.2]⟩
              | _ => rw [hq] at hev; simp at hev
            obtain ⟨tag3, hy⟩ := hy
            simp only [hargs, hts, htx, hy, hsl]
            rw [if_pos h1.1]
            refine ⟨h1, h2, h3, h4, ?_⟩
            rw [app_grow'] at h5
            simpa [Eff.valOf, htx] using h5
          · exact h.elim
        · exact h.elim
      · have h' : match aBuiltin P s.evd b args.toList argTypes.toList with
          | some q => K ((Eff.val (dead1 q)).app dst s)
          | none => False := by
          cases b <;> first | exact absurd rfl hb | exact h
        split at h'
        · rename_i q hq; exact value hq h'
        · exact h'.elim
  | assign x =>
    cases x with
    | tmp t => exact aop_sound (ops := ops) r (show aop P ops _ s K by simp only [aeff] at h; rw [app_hand'] at h; exact h)
    | const c =>
      have h' : K ((Eff.val (dead1 (s.ev (.const c)))).app dst s) := h
      exact value (x := dead1 (s.evd (.const c))) (by rfl) (by simpa [ASt.evd] using h')
    | global c =>
      have h' : K ((Eff.val (dead1 (s.ev (.global c)))).app dst s) := h
      exact value (x := dead1 (s.evd (.global c))) (by rfl) (by simpa [ASt.evd] using h')
    | func c =>
      have h' : K ((Eff.val (dead1 (s.ev (.func c)))).app dst s) := h
      exact value (x := dead1 (s.evd (.func c))) (by rfl) (by simpa [ASt.evd] using h')
  | store t x y => exact h.elim
  | alloc t => exact h.elim
  | box t x => exact h.elim
  | load t x =>
    simp only [aeff] at h
    split at h
    · rename_i q hq
      refine aop_sound (ops := ops) r ?_
      split at hq
      · rename_i hf
        have hown : ∃ cells, aloadOwn P s t (s.ev x) = some q ∧ s.h q.1 = some cells ∧ cells[q.2.1]? = some q.2.2 := by
          unfold aloadOwn at hq ⊢
          cases hv : vT P t with
          | none => simp [hv] at hq
          | some n =>
            obtain ⟨n1, n2⟩ := n
            cases n2 with
            | true => simp [hv] at hq
            | false =>
              simp only [hv] at hq ⊢
              cases hev : s.ev x with
              | ptr b off =>
                have hev2 : s.evd x = .ptr b off := by unfold ASt.evd; rw [hev]; rfl
                simp only [hev2] at hq
                simp only
                cases hb : maskH M s.h b with
                | none => simp [hb] at hq
                | some cells =>
                  simp only [hb] at hq
                  have hb' := (maskH_some hb).1
                  simp only [hb']
                  cases hz : cells[off]? with
                  | none => simp [hz] at hq
                  | some z =>
                    simp only [hz] at hq ⊢
                    split at hq
                    · rename_i hs
                      obtain rfl := Option.some.inj hq
                      exact ⟨cells, by simp [hs], hb', hz⟩
                    · simp at hq
              | _ =>
                have hev2 : s.evd x = dead1 (s.ev x) := rfl
                rw [hev] at hev2
                simp [hev2] at hq
        obtain ⟨cells, h1, h2, h3⟩ := hown
        simp only [aop, hf, if_true, h1]
        have : (Eff.take q.1 q.2.1 q.2.2).app dst s = (s.killAt (.cell q.1 q.2.1)).put dst q.2.2 := by
          refine ASt.ext' (by rw [app_n, put_n]; rfl) ?_ (by rw [app_h, put_h]; rfl)
          funext k
          rw [app_t, put_t]
          simp [Eff.src, Eff.valOf, ASt.killAt]
          try rfl
        rw [← this]; exact h
      · simp at hq
    · split at h
      · rename_i q hq; exact value hq h
      · exact h.elim
  | buildSlice t n ps =>
    simp only [aeff, keepQ] at h
    split at h
    · rename_i q hq; exact value2 hq h
    · exact h.elim
  | _ =>
    simp only [aeff, keepQ] at h
    split at h
    · rename_i q hq; exact value hq h
    · exact h.elim

theorem aloud_sound {M : Msk} {ops : List Oper} {o : Oper} {K : ASt → Prop} {Q : Exit → Act → World → Prop} (r : Rel B F w0 I0 s G a w) (h : aloud P M o s K) :
    o.wp P a w (At B F w0 I0 a.tmps.size K) Q := by
  refine aop_sound (ops := ops) r ?_
  unfold aloud at h
  unfold aop
  split at h
  · rename_i c hop
    rw [hop]
    simp only
    split at h
    · rename_i f hf
      rw [hf]
      simp only
      split at h
      · rename_i g cap hev
        have hev' : s.ev f = .fn g cap := by
          unfold ASt.evd at hev
          cases hq : s.ev f with
          | fn g' c' => rw [hq] at hev; exact hev
          | _ => rw [hq] at hev; simp at hev
        rw [hev']
        obtain ⟨h0, R, h1, h2, h3, h4⟩ := h
        exact .inl (.inr (.inl ⟨h0, R, h2, h3, fun r h' hr hf => Shift.refl (h4 r h' hr hf)⟩))
      · exact h.elim
    · rename_i hf
      rw [hf]
      simp only
      split at h
      · rename_i tx y t t' hargs hts
        rw [hargs, hts]
        simp only
        have down : ∀ x z, s.evd x = z → isSl z = false → noRef z = true → s.ev x = z := fun x z hx hz hr => by
          unfold ASt.evd at hx
          cases hq : s.ev x with
          | sl tag rows => rw [hq] at hx; simp at hx; subst hx; simp [isSl] at hz
          | ob m g o => rw [hq] at hx; simp at hx; subst hx; cases m <;> simp [noRef, obW] at hr
          | _ => rw [hq] at hx; exact hx
        have downsl : ∀ x tag rows, s.evd x = .sl tag rows → ∃ tag', s.ev x = .sl tag' rows := fun x tag rows hx => by
          unfold ASt.evd at hx
          cases hq : s.ev x with
          | sl tag' rows' => rw [hq] at hx; simp at hx; exact ⟨tag', by rw [hx.2]⟩
          | _ => rw [hq] at hx; simp at hx
        split at h
        · rename_i b off n cc tag2 rows2 e h1 h2 h3
          obtain ⟨g1, g2, g3, g4, g5⟩ := h
          have e1 : s.t tx = .sm b off n cc := down (.tmp tx) _ h1 rfl rfl
          obtain ⟨tag', e2⟩ := downsl y _ _ h2
          rw [if_pos g1.1, e1, e2, h3]
          exact ⟨g1, g2, g3, g5⟩
        · rename_i tag2 rows2 e h1 h2 h3
          have e1 : s.t tx = .mn := down (.tmp tx) _ h1 rfl rfl
          obtain ⟨tag', e2⟩ := downsl y _ _ h2
          rw [if_pos h.1.1, e1, e2, h3]
          exact h
        · exact h.elim
      · exact h.elim
    · rename_i hf
      rw [hf]
      simp only
      split at h
      · rename_i x y t t' hargs hts
        rw [hargs, hts]
        simp only
        have down : ∀ x z, s.evd x = z → isSl z = false → noRef z = true → s.ev x = z := fun x z hx hz hr => by
          unfold ASt.evd at hx
          cases hq : s.ev x with
          | sl tag rows => rw [hq] at hx; simp at hx; subst hx; simp [isSl] at hz
          | ob m g o => rw [hq] at hx; simp at hx; subst hx; cases m <;> simp [noRef, obW] at hr
          | _ => rw [hq] at hx; exact hx
        split at h
        · rename_i b off n cc b2 off2 n2 cc2 e h1 h2 h3
          obtain ⟨g1, g2, g3⟩ := h
          rw [down x _ h1 rfl rfl, down y _ h2 rfl rfl, h3]
          exact g3
        · exact h.elim
      · exact h.elim
    · exact h.elim
  · rename_i t x y hop
    rw [hop]
    simp only
    have down : ∀ x z, s.evd x = z → isSl z = false → noRef z = true → s.ev x = z := fun x z hx hz hr => by
      unfold ASt.evd at hx
      cases hq : s.ev x with
      | sl tag rows => rw [hq] at hx; simp at hx; subst hx; simp [isSl] at hz
      | ob m g o => rw [hq] at hx; simp at hx; subst hx; cases m <;> simp [noRef, obW] at hr
      | _ => rw [hq] at hx; exact hx
    split at h
    · rename_i b off n h1 h2
      obtain ⟨g1, g2, g3, g4⟩ := h
      have e1 : s.ev x = .ptr b off := down x _ h1 rfl rfl
      have e2 : s.ev y = s.evd y := down y _ rfl g2.1 g2.2
      rw [e1, h2, e2]
      simp only
      split at g4
      · rename_i cells cs hb hcs
        rw [hb, hcs]
        refine ⟨g1, g4.1, g4.2.1, ?_⟩
        split
        · rename_i tag rows hq
          rw [hq] at g2; simp [isSl] at g2
        · exact g4.2.2
      · exact g4.elim
    · exact h.elim
  · rename_i e hop
    rw [hop]
    exact h
  · exact h.elim

theorem skip_put (r : Rel B F w0 I0 s G a w) (d : Option Tmp) : Rel B F w0 I0 (s.put d (.v undef)) G (a.put d undef) w :=
  r.put d _ _ (.v _) fun _ _ => trivial

theorem qstep_sound {M : Msk} {ops : Array Oper} {ms : List Md} {i : Nat} {K : ASt → Prop} {Q : Exit → Act → World → Prop} (r : Rel B F w0 I0 s G a w) (h : qstep P M ops ms i K s) :
    wpOp P ops Q i (At B F w0 I0 a.tmps.size K) a w := by
  unfold qstep at h
  unfold wpOp
  cases ho : ops[i]? with
  | none => simp only [ho] at h; exact ⟨s, G, h, r, rfl⟩
  | some o =>
    simp only [ho] at h ⊢
    rw [awanted_eq r ops o]
    split at h
    · obtain ⟨e, hy | hy, hK⟩ := h
      · obtain ⟨hw, he⟩ := hy
        simp only [hw, if_true]
        exact .inl (aeff_sound r (aeff_mono (fun e' (h' : e' = e) => by rw [h']; exact hK) he))
      · obtain ⟨hw, rfl⟩ := hy
        simp only [hw, Bool.false_eq_true, if_false]
        rw [app_val'] at hK
        exact ⟨_, G, hK, skip_put r _, put_size _ _ _⟩
    · obtain ⟨e, hy | hy, hK⟩ := h
      · obtain ⟨hw, he⟩ := hy
        simp only [hw, if_true]
        exact .inl (aeff_sound r (aeff_mono (fun e' (h' : e' = e) => by rw [h']; exact hK) he))
      · obtain ⟨hw, rfl⟩ := hy
        simp only [hw, Bool.false_eq_true, if_false]
        rw [app_val'] at hK
        exact ⟨_, G, hK, skip_put r _, put_size _ _ _⟩
    · split at h
      · rename_i hw
        simp only [hw, if_true]
        exact .inl (aloud_sound (ops := ops.toList) r h)
      · rename_i hw
        simp only [hw, if_false]
        exact ⟨_, G, h, skip_put r _, put_size _ _ _⟩
    · split at h
      · rename_i hw
        simp only [hw, if_true]
        exact .inl (aop_sound r h)
      · rename_i hw
        simp only [hw, if_false]
        exact ⟨_, G, h, skip_put r _, put_size _ _ _⟩

theorem aAny_sound {M : Msk} {md : Region.Mode} {ops : Array Oper} {ms : List Md} {Q : AExit → ASt → Prop} {N : Nat} : ∀ (fuel : Nat) (listed : Array Bool) (s : ASt) (G : Ghost) (a : Act) (w : World),
    Rel B F w0 I0 s G a w → a.tmps.size = N → aAny P M md ops ms (Q .normal) fuel listed s → wpAny P md ops (lift B F w0 I0 N Q) fuel listed a w
  | 0, _, s, G, a, w, r, hn, h => ⟨h.1, .normal, s, G, rfl, h.2, r, hn⟩
  | fuel + 1, _, s, G, a, w, r, hn, h => ⟨fun h0 => ⟨.normal, s, G, rfl, h.1 h0, r, hn⟩, fun i hi =>
      wpOp_mono (fun a' w' ⟨s', G', hk, r', hn'⟩ => aAny_sound fuel _ s' G' a' w' r' (hn'.trans hn) hk) (qstep_sound r (h.2 i hi))⟩

theorem Rel.drew (r : Rel B F w0 I0 s G a w) : Rel B F w0 I0 s G a { w with drawn := w.drawn + 1 } := by
  have e : Ext w G.imm { w with drawn := w.drawn + 1 } G.imm := ⟨fun _ _ => rfl, Nat.le_refl _, fun _ _ => rfl, r.hrel.imm, Calm.drew w⟩
  exact r.ext e

theorem adraw_sound {id : Nat} {ops : Array Oper} {Q : AExit → ASt → Prop} (r : Rel B F w0 I0 s G a w) (h : adraw P ops s (Q .normal)) :
    (Code.region id ops true).wp P (lift B F w0 I0 a.tmps.size Q) a w := by
  rcases h with ⟨M, ms, ⟨hm, hB⟩, h⟩ | ⟨M, ms, l, ⟨hm, hl, hB⟩, h⟩
  · refine wp_region_any hm ?_
    have := aAny_lex (K := Q .normal) ops.toList 0 (Array.replicate ops.size false) s (by simp) (by simpa using hB) h
    simp only [Array.length_toList] at this
    exact aAny_sound ops.size _ s G a _ r.drew rfl this
  · refine wp_region_any hm ?_
    have := aAny_ord (K := Q .normal) l (Array.replicate ops.size false) s hB h
    rw [hl] at this
    exact aAny_sound ops.size _ s G a _ r.drew rfl this

theorem aops_sound {ops : Array Oper} {Q : AExit → ASt → Prop} {N : Nat} : ∀ (l : List Oper) (s : ASt) (G : Ghost) (a : Act) (w : World),
    Rel B F w0 I0 s G a w → a.tmps.size = N → aops P ops.toList l s (Q .normal) → wpList P ops (lift B F w0 I0 N Q) l a w
  | [], s, G, a, w, r, hn, h => ⟨.normal, s, G, rfl, h, r, hn⟩
  | o :: l, s, G, a, w, r, hn, h => by
    simp only [aops] at h
    simp only [wpList]
    rw [awanted_eq r ops o]
    split at h
    · rename_i hw
      simp only [hw, if_true]
      exact .inl (Oper.wp_mono (fun a' w' ⟨s', G', hk, r', hn'⟩ => aops_sound l s' G' a' w' r' (hn'.trans hn) hk) (aop_sound r h))
    · rename_i hw
      simp only [hw, if_false]
      exact aops_sound l _ G _ _ (skip_put r _) ((put_size _ _ _).trans hn) h

/-- a loop whose measure stands in a ghost -/
theorem wp_loop_ghost {c : Code} {Q : Exit → Act → World → Prop} (I : Nat → Act → World → Prop) {n : Nat} {a : Act} {w : World} (h0 : I n a w)
    (round : ∀ n a w, I n a w → c.wp P (Exit.then (fun a' w' => ∃ m, m < n ∧ I m a' w') Q) a w) : (Code.loop c).wp P Q a w := by
  classical
  have least : ∀ a w, (∃ n, I n a w) → ∃ n, I n a w ∧ ∀ m, m < n → ¬ I m a w := by
    intro a w ⟨n, hn⟩
    induction n using Nat.strongRecOn with
    | _ n ih =>
      by_cases h : ∃ m, m < n ∧ I m a w
      · obtain ⟨m, hm, hi⟩ := h; exact ih m hm hi
      · exact ⟨n, hn, fun m hm hi => h ⟨m, hm, hi⟩⟩
  refine wp_loop (fun a w => ∃ n, I n a w) (fun a w => if h : ∃ n, I n a w then Classical.choose (least a w h) else 0) ⟨n, h0⟩ fun a w h => ?_
  have hs := Classical.choose_spec (least a w h)
  refine Code.wp_mono (fun e a' w' q => ?_) (round _ a w hs.1)
  cases e with
  | normal =>
    obtain ⟨m, hm, hi⟩ := q
    refine ⟨⟨m, hi⟩, ?_⟩
    have h' : ∃ n, I n a' w' := ⟨m, hi⟩
    simp only [h', h, dif_pos]
    have hs' := Classical.choose_spec (least a' w' h')
    refine Nat.lt_of_le_of_lt ?_ hm
    rcases Nat.lt_or_ge m (Classical.choose (least a' w' h')) with hlt | hge
    · exact absurd hi (hs'.2 m hlt)
    · exact hge
  | _ => exact q

theorem awp_sound {N : Nat} : ∀ (c : Code) (Q : AExit → ASt → Prop) (s : ASt) (G : Ghost) (a : Act) (w : World),
    Rel B F w0 I0 s G a w → a.tmps.size = N → awp P c Q s → c.wp P (lift B F w0 I0 N Q) a w
  | .skip, Q, s, G, a, w, r, hn, h => wp_skip ⟨.normal, s, G, rfl, h, r, hn⟩
  | .region id ops draw, Q, s, G, a, w, r, hn, h => by
    simp only [awp] at h
    cases draw with
    | true => simp only [if_true] at h; subst hn; exact adraw_sound r h
    | false => simp only [Bool.false_eq_true, if_false] at h; exact wp_region_list (aops_sound ops.toList s G a w r hn h)
  | .seq x y, Q, s, G, a, w, r, hn, h => by
    refine wp_seq (Code.wp_mono (fun e a' w' ⟨ae, s', G', he, hq, r', hn'⟩ => ?_) (awp_sound x _ s G a w r hn h))
    subst he
    cases ae with
    | normal => exact awp_sound y Q s' G' a' w' r' hn' hq
    | exit id => exact ⟨.exit id, s', G', rfl, hq, r', hn'⟩
    | ret => exact ⟨.ret, s', G', rfl, hq, r', hn'⟩
  | .cond c x y, Q, s, G, a, w, r, hn, h => by
    simp only [awp] at h
    have hc := r.ev c
    split at h
    · rename_i b hb
      rw [hb] at hc
      generalize hq : a.eval c = q at hc
      cases hc
      refine wp_cond hq ?_
      cases b with
      | true => simp only [if_true] at h ⊢; exact awp_sound x Q s G a w r hn h
      | false => simp only [Bool.false_eq_true, if_false] at h ⊢; exact awp_sound y Q s G a w r hn h
    · exact h.elim
  | .block id c, Q, s, G, a, w, r, hn, h => by
    refine wp_block (Code.wp_mono (fun e a' w' ⟨ae, s', G', he, hq, r', hn'⟩ => ?_) (awp_sound c _ s G a w r hn h))
    subst he
    cases ae with
    | normal => exact ⟨.normal, s', G', rfl, hq, r', hn'⟩
    | exit id' =>
      simp only [AExit.toExit, Exit.inBlock]
      simp only at hq
      split at hq
      · rename_i hid; rw [if_pos hid]; exact ⟨.normal, s', G', rfl, hq, r', hn'⟩
      · rename_i hid; rw [if_neg hid]; exact ⟨.exit id', s', G', rfl, hq, r', hn'⟩
    | ret => exact ⟨.ret, s', G', rfl, hq, r', hn'⟩
  | .loop c, Q, s, G, a, w, r, hn, h => by
    obtain ⟨Inv, μ, h0, hround⟩ := h
    obtain ⟨s1, G1, h1, r1⟩ := h0 B F w0 I0 G a w r
    refine wp_loop_ghost (fun n a w => ∃ s' G', μ s' = n ∧ Inv s' ∧ Rel B F w0 I0 s' G' a w ∧ a.tmps.size = N) (n := μ s1) ⟨s1, G1, rfl, h1, r1, hn⟩ ?_
    intro n a' w' ⟨s', G', hμ, hi, r', hn'⟩
    have hs : s'.n = s.n := by rw [← r'.size, ← r.size, hn, hn']
    refine Code.wp_mono (fun e a'' w'' ⟨ae, s'', G'', he, hq, r'', hn''⟩ => ?_) (awp_sound c _ s' G' a' w' r' hn' (hround s' hs hi))
    subst he
    cases ae with
    | normal => exact ⟨μ s'', by rw [← hμ]; exact hq.2, s'', G'', rfl, hq.1, r'', hn''⟩
    | exit id => exact ⟨.exit id, s'', G'', rfl, hq, r'', hn''⟩
    | ret => exact ⟨.ret, s'', G'', rfl, hq, r'', hn''⟩
  | .exit id, Q, s, G, a, w, r, hn, h => wp_exit ⟨.exit id, s, G, rfl, h, r, hn⟩
  | .ret, Q, s, G, a, w, r, hn, h => wp_ret ⟨.ret, s, G, rfl, h, r, hn⟩
  | .rangeFunc .., _, _, _, _, _, _, _, h => h.elim
  | .scope _, _, _, _, _, _, _, _, h => h.elim
  | .label _, _, _, _, _, _, _, _, h => h.elim
  | .goto _, _, _, _, _, _, _, _, h => h.elim
  | .refuse _, _, _, _, _, _, _, _, h => h.elim

end
end Go.Rw
