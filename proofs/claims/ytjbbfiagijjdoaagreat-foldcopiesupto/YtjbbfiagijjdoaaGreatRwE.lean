/- Parts of the proof: what is used by the law. No condition. -/
import Derived.Test.YtjbbfiagijjdoaaGreatRwD
set_option linter.unusedSimpArgs false
set_option linter.unusedVariables false
/- Structs of integers and bools are compared. No condition. -/
set_option linter.unusedSimpArgs false
set_option linter.unusedVariables false
namespace Go.Rw

/-- the leaves of a type of integers and bools (true: a bool), one after the other -/
def eqFs (P : Program) (rec : TypeId → Option (List Bool)) : List Field → Nat → Option (List Bool)
  | [], _ => some []
  | f :: fs, off =>
    if f.offset = off ∧ f.name ≠ "_" then
      match rec f.type, vT P f.type with
      | some l, some x => if x.1 = l.length then (eqFs P rec fs (off + l.length)).map (l ++ ·) else none
      | _, _ => none
    else none

def eqShape (P : Program) : Nat → TypeId → Option (List Bool)
  | 0, _ => none
  | d + 1, t => match P.underlying t with
    | some (.int _) => some [false]
    | some .bool => some [true]
    | some (.struct fs) => if P.stoodInHeld t then none else eqFs P (eqShape P d) fs.toList 0
    | _ => none

def eqsT (P : Program) (t : TypeId) : Option (List Bool) := if P.eqGuardType P.depth t then none else eqShape P 10 t

def leavesEq : List Bool → List Value → List Value → Option Bool
  | [], [], [] => some true
  | false :: l, .int k a :: xs, .int k' b :: ys => if k = k' then (leavesEq l xs ys).map (a == b && ·) else none
  | true :: l, .bool a :: xs, .bool b :: ys => (leavesEq l xs ys).map (a == b && ·)
  | _, _, _ => none

def vals : List AV → Option (List Value)
  | [] => some []
  | .v x :: xs => (vals xs).map (x :: ·)
  | _ :: _ => none

theorem leavesEq_length : ∀ {l : List Bool} {xs ys : List Value} {b : Bool}, leavesEq l xs ys = some b → xs.length = l.length ∧ ys.length = l.length
  | [], [], [], _, _ => ⟨rfl, rfl⟩
  | false :: l, .int k a :: xs, .int k' b :: ys, r, h => by
    simp only [leavesEq] at h
    split at h
    · cases hr : leavesEq l xs ys with
      | none => simp [hr] at h
      | some c => have := leavesEq_length hr; simp [this]
    · simp at h
  | true :: l, .bool a :: xs, .bool b :: ys, r, h => by
    simp only [leavesEq] at h
    cases hr : leavesEq l xs ys with
    | none => simp [hr] at h
    | some c => have := leavesEq_length hr; simp [this]

theorem leavesEq_append : ∀ {l m : List Bool} {xs ys : List Value} {b : Bool}, leavesEq (l ++ m) xs ys = some b →
    ∃ c d, leavesEq l (xs.take l.length) (ys.take l.length) = some c ∧ leavesEq m (xs.drop l.length) (ys.drop l.length) = some d ∧ b = (c && d)
  | [], m, xs, ys, b, h => ⟨true, b, by simp [leavesEq], by simpa using h, by simp⟩
  | false :: l, m, .int k a :: xs, .int k' a' :: ys, r, h => by
    simp only [List.cons_append, leavesEq] at h
    split at h
    · rename_i hk
      cases hr : leavesEq (l ++ m) xs ys with
      | none => simp [hr] at h
      | some e =>
        simp [hr] at h
        obtain ⟨c, d, h1, h2, rfl⟩ := leavesEq_append hr
        exact ⟨a == a' && c, d, by simp [leavesEq, hk, h1], by simpa using h2, by subst h; simp [Bool.and_assoc]⟩
    · simp at h
  | true :: l, m, .bool a :: xs, .bool a' :: ys, r, h => by
    simp only [List.cons_append, leavesEq] at h
    cases hr : leavesEq (l ++ m) xs ys with
    | none => simp [hr] at h
    | some e =>
      simp [hr] at h
      obtain ⟨c, d, h1, h2, rfl⟩ := leavesEq_append hr
      exact ⟨a == a' && c, d, by simp [leavesEq, h1], by simpa using h2, by subst h; simp [Bool.and_assoc]⟩

theorem vals_CR {I : Imm} : ∀ {xs : List AV} {vs : List Value} {arr : Array Value}, vals xs = some vs → CR I xs arr → arr = vs.toArray := by
  intro xs vs arr hv hc
  obtain ⟨h1, h2⟩ := hc
  have key : ∀ (xs : List AV) (vs : List Value) (ys : List Value), vals xs = some vs → xs.length = ys.length → (∀ (j : Nat) (x : AV) (y : Value), xs[j]? = some x → ys[j]? = some y → Rep I x y) → ys = vs := by
    intro xs
    induction xs with
    | nil => intro vs ys hv hl _; simp [vals] at hv; subst hv; cases ys <;> simp at hl ⊢
    | cons x xs ih =>
      intro vs ys hv hl hr
      cases ys with
      | nil => simp at hl
      | cons y ys =>
        cases x <;> simp [vals] at hv
        rename_i z
        obtain ⟨ws, hw, rfl⟩ := hv
        have h0 := hr 0 _ _ rfl rfl
        cases h0
        rw [ih ws ys hw (by simpa using hl) (fun j x y hx hy => hr (j + 1) x y hx hy)]
  have := key xs vs arr.toList hv (by simpa using h1) (fun j x y hx hy => h2 j x y hx (by simpa using hy))
  rw [← this]

section
variable {P : Program} {w : World} {I : Imm}

/-- a part of a struct as a value -/
def mkV (agg : Bool) (cs : List Value) : Value := if agg then .agg cs.toArray else cs.headD undef

theorem run_part {t : TypeId} {x : Nat × Bool} (hv : vT P t = some x) (cs : List Value) (off : Nat) (h : off + x.1 ≤ cs.length) (hz : x.2 = false → x.1 = 1) :
    (part t cs.toArray off).run P w = .ok (mkV x.2 ((cs.drop off).take x.1)) w := by
  obtain ⟨i, d, hinf, _, hsz, hag⟩ := vT_some (w := w) hv
  obtain ⟨n, agg⟩ := x
  cases agg with
  | true =>
    simp only at hsz
    subst hsz
    have e : (List.take (off + i.size) cs).drop off = List.take i.size (List.drop off cs) := by rw [List.drop_take]; congr 1; omega
    simp [part, hag, run_sizeOf' hinf, mkV, e]
  | false =>
    have hn : n = 1 := hz rfl
    subst hn
    simp only at h
    have hlt : off < cs.length := by omega
    have e : (List.drop off cs).take 1 = [cs[off]] := by
      rw [List.drop_eq_getElem_cons hlt, List.take_succ_cons, List.take_zero]
    simp [part, hag, mkV, e, hlt]

theorem eqShape_sound : ∀ (d k : Nat) (t : TypeId) (l : List Bool) (x : Nat × Bool), eqShape P d t = some l → vT P t = some x → x.1 = l.length →
    ((x.2 = false → x.1 = 1) ∧ ∀ (xs ys : List Value) (b : Bool), leavesEq l xs ys = some b → (Op.equalIn (d + k) t (mkV x.2 xs) (mkV x.2 ys)).run P w = .ok b w)
  | 0, k, t, l, x, h, _, _ => by simp [eqShape] at h
  | d + 1, k, t, l, x, h, hv, hl => by
    have hdk : d + 1 + k = (d + k) + 1 := by omega
    rw [hdk]
    simp only [eqShape] at h
    split at h
    · rename_i ik hu
      obtain rfl := Option.some.inj h
      have hx : x.2 = false := by
        unfold vT at hv
        cases hi : P.info? t with
        | none => simp [hi] at hv
        | some i => simp [hi, hu] at hv; rw [← hv]
      refine ⟨fun _ => hl, fun xs ys b hb => ?_⟩
      match xs, ys, hb with
      | .int k1 a :: [], .int k2 c :: [], hb =>
        simp only [leavesEq] at hb
        split at hb
        · rename_i hk
          subst hk
          simp at hb
          subst hb
          rw [hx]
          exact run_equalIn_int w (d + k) t k1 ik a c hu
        · simp at hb
      | .int k1 a :: x1 :: xs, .int k2 c :: ys, hb => have := leavesEq_length hb; simp at this
      | .int k1 a :: [], .int k2 c :: y1 :: ys, hb => have := leavesEq_length hb; simp at this
    · rename_i hu
      obtain rfl := Option.some.inj h
      have hx : x.2 = false := by
        unfold vT at hv
        cases hi : P.info? t with
        | none => simp [hi] at hv
        | some i => simp [hi, hu] at hv; rw [← hv]
      refine ⟨fun _ => hl, fun xs ys b hb => ?_⟩
      match xs, ys, hb with
      | .bool a :: [], .bool c :: [], hb =>
        simp [leavesEq] at hb
        subst hb
        rw [hx]
        exact run_equalIn_bool w (d + k) t a c hu
      | .bool a :: x1 :: xs, .bool c :: ys, hb => have := leavesEq_length hb; simp at this
      | .bool a :: [], .bool c :: y1 :: ys, hb => have := leavesEq_length hb; simp at this
    · rename_i fs hu
      have hx : x.2 = true := by
        unfold vT at hv
        cases hi : P.info? t with
        | none => simp [hi] at hv
        | some i => simp [hi, hu] at hv; rw [← hv]
      refine ⟨fun h => by rw [hx] at h; simp at h, fun xs ys b hb => ?_⟩
      split at h
      · simp at h
      · rename_i hs
        have hfo : P.fieldsOf t = fs := by simp [Program.fieldsOf, hu]
        rw [hx]
        simp only [mkV, if_true]
        rw [run_equalIn_struct w (d + k) t _ _ (by rw [hfo]; exact hu) (by simpa using hs), hfo]
        have key : ∀ (fl : List Field) (off : Nat) (m : List Bool) (b : Bool), eqFs P (eqShape P d) fl off = some m → off + m.length = xs.length → off + m.length = ys.length →
            leavesEq m (xs.drop off) (ys.drop off) = some b → (Op.eqFields (d + k) xs.toArray ys.toArray fl).run P w = .ok b w := by
          intro fl
          induction fl with
          | nil =>
            intro off m b he h1 h2 hb
            simp [eqFs] at he
            subst he
            have e1 : xs.drop off = [] := by apply List.drop_eq_nil_of_le; simp at h1; omega
            have e2 : ys.drop off = [] := by apply List.drop_eq_nil_of_le; simp at h2; omega
            rw [e1, e2] at hb
            simp [leavesEq] at hb
            subst hb
            simp [Op.eqFields]
          | cons f fl ih =>
            intro off m b he h1 h2 hb
            simp only [eqFs] at he
            split at he
            · rename_i hoff
              obtain ⟨hoff, hname⟩ := hoff
              subst hoff
              cases hrec : eqShape P d f.type with
              | none => simp [hrec] at he
              | some lf =>
                cases hvf : vT P f.type with
                | none => simp [hrec, hvf] at he
                | some xf =>
                  simp only [hrec, hvf] at he
                  split at he
                  · rename_i hsz
                    cases hrest : eqFs P (eqShape P d) fl (f.offset + lf.length) with
                    | none => simp [hrest] at he
                    | some m' =>
                      simp [hrest] at he
                      subst he
                      obtain ⟨c, e, hc, hd2, rfl⟩ := leavesEq_append hb
                      obtain ⟨hone, hsound⟩ := eqShape_sound d k f.type lf xf hrec hvf hsz
                      simp only [List.length_append] at h1 h2
                      have p1 := run_part (P := P) (w := w) hvf xs f.offset (by omega) hone
                      have p2 := run_part (P := P) (w := w) hvf ys f.offset (by omega) hone
                      rw [hsz] at p1 p2
                      have hs2 := hsound _ _ c hc
                      simp only [List.drop_drop] at hd2
                      have ih' := ih (f.offset + lf.length) m' e hrest (by omega) (by omega) hd2
                      simp only [Op.eqFields, hname, ne_eq, not_false_eq_true, if_true, Sem.run_bind, p1, p2, Result.andThen_ok, hs2, Sem.run_ite, Sem.run_pure, ih']
                      cases c <;> simp
                  · simp at he
            · simp at he
        have hlen := leavesEq_length hb
        exact key fs.toList 0 l b h (by omega) (by omega) (by simpa using hb)
    · simp at h

def aStructEq (P : Program) (t : TypeId) (xs ys : List AV) : Option Bool :=
  match eqsT P t with
  | none => none
  | some l => match vals xs with
    | none => none
    | some a => match vals ys with
      | none => none
      | some b => leavesEq l a b

theorem aStructEq_sound {t : TypeId} {ox oy : Operand} {xs ys : List AV} {x : Nat × Bool} {a b : Value} {r : Bool} (hv : vT P t = some x) (hx2 : x.2 = true) (hx : Rep I (.agg xs) a) (hy : Rep I (.agg ys) b)
    (hlen : x.1 = xs.length) (h : aStructEq P t xs ys = some r) (neg : Bool) :
    (do eqGuard (if neg then .neq else .eql) t ox oy a b; Go.binOp (if neg then .neq else .eql) t a b : Sem Value).run P w = .ok (.bool (if neg then !r else r)) w := by
  unfold aStructEq at h
  cases hs : eqsT P t with
  | none => simp [hs] at h
  | some l =>
    simp only [hs] at h
    cases h1 : vals xs with
    | none => simp [h1] at h
    | some p =>
      simp only [h1] at h
      cases h2 : vals ys with
      | none => simp [h2] at h
      | some q =>
        simp only [h2] at h
        unfold eqsT at hs
        split at hs
        · simp at hs
        · rename_i hg
          have hg' : P.eqGuardType P.depth t = false := by simpa using hg
          cases hx with
          | agg cs hl hr =>
            cases hy with
            | agg ds hl' hr' =>
              have e1 : cs.toArray = p.toArray := vals_CR h1 ⟨by simpa using hl, fun j x y hx hy => hr j x y hx (by simpa using hy)⟩
              have e2 : ds.toArray = q.toArray := vals_CR h2 ⟨by simpa using hl', fun j x y hx hy => hr' j x y hx (by simpa using hy)⟩
              have e1' : cs = p := by simpa using congrArg Array.toList e1
              have e2' : ds = q := by simpa using congrArg Array.toList e2
              subst e1'; subst e2'
              have hll := leavesEq_length h
              have := (eqShape_sound (w := w) 10 9990 t l x hs hv (by rw [hlen, hl, hll.1])).2 cs ds r h
              rw [hx2] at this
              simp only [mkV, if_true] at this
              have e10 : (10 : Nat) + 9990 = 10000 := rfl
              rw [e10] at this
              cases neg with
              | false => simp [run_eqGuard_agg w _ _ _ _ _ _ hg', run_eql_struct, this]
              | true => simp [run_eqGuard_agg w _ _ _ _ _ _ hg', run_neq_struct, this]

end
end Go.Rw
