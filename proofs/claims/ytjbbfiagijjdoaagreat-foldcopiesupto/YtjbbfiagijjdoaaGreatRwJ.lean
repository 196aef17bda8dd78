/- Parts of the proof: what is used by the law. No condition. -/
import Derived.Test.YtjbbfiagijjdoaaGreatRwI
set_option linter.unusedSimpArgs false
set_option linter.unusedVariables false
/- All operations that only yield a value, in one. No condition. -/
set_option linter.unusedSimpArgs false
set_option linter.unusedVariables false
namespace Go.Rw

def rowByte : List AV → Option UInt8
  | [.v (.int .u8 n)] => some (UInt8.ofNat n.toNat)
  | _ => none

def rowsBytes : List (List AV) → Option (List UInt8)
  | [] => some []
  | r :: rs => match rowByte r with
    | none => none
    | some b => (rowsBytes rs).map (b :: ·)

def stringT (P : Program) (t : TypeId) : Bool :=
  match P.underlying t with
  | some .string => true
  | _ => false

def aBinAll (P : Program) (op : BinOp) (t : TypeId) (x y : AV) : Option AV :=
  match op, x, y with
  | .eql, .agg xs, .agg ys => if (vT P t) = some (xs.length, true) then (aStructEq P t xs ys).map fun b => .v (.bool b) else none
  | .neq, .agg xs, .agg ys => if (vT P t) = some (xs.length, true) then (aStructEq P t xs ys).map fun b => .v (.bool (!b)) else none
  | op, x, y => aBin P op t x y

def aUn (op : UnOp) (x : AV) : Option AV :=
  match x with
  | .v a => (Sem.val? (Op.unary op a)).map .v
  | _ => none

def aConv (P : Program) (src dst : TypeId) (x : AV) : Option AV :=
  match x with
  | .v (.int _ n) => if (P.underlying src).isSome then (ikT P dst).map fun k => .v (.int k (k.wrap n)) else none
  | .sl _ rows => match slT P src with
    | some e => if ikT P e.1 = some .u8 ∧ e.2.1 = 1 ∧ stringT P dst = true then (rowsBytes rows).map fun bs => .v (.string ⟨bs.toArray⟩) else none
    | none => none
  | _ => none

def aLen (P : Program) (t : TypeId) (x : AV) : Option AV :=
  match x with
  | .sl _ rows => if (slT P t).isSome then some (.v (.int .i64 rows.length)) else none
  | .sm _ _ n _ => if (slT P t).isSome then some (.v (.int .i64 n)) else none
  | .mn => if (slT P t).isSome then some (.v (.int .i64 0)) else none
  | .v (.string s) => if stringT P t then some (.v (.int .i64 s.size)) else none
  | _ => none

def aIndexVal (P : Program) (t : TypeId) (x i : AV) : Option AV :=
  match x, aIdx i with
  | .v (.string s), some n => if stringT P t ∧ 0 ≤ n then (s[n.toNat]?).map fun b => .v (.int .u8 b.toNat) else none
  | _, _ => none

def aMax (x y : AV) : Option AV :=
  match x, y with
  | .v (.int k a), .v (.int _ b) => some (.v (.int k (if b > a then b else a)))
  | _, _ => none
def aMin (x y : AV) : Option AV :=
  match x, y with
  | .v (.int k a), .v (.int _ b) => some (.v (.int k (if b < a then b else a)))
  | _, _ => none

def aBuiltin (P : Program) (ev : Operand → AV) (b : Builtin) (args : List Operand) (ts : List TypeId) : Option AV :=
  match b, args, ts with
  | .len, [x], [t] => aLen P t (ev x)
  | .max, [x, y], _ => aMax (ev x) (ev y)
  | .min, [x, y], _ => aMin (ev x) (ev y)
  | _, _, _ => none

def aval (P : Program) (ev : Operand → AV) (h : Nat → Option (List AV)) : Op → Option AV
  | .move x => some (dead1 (ev x))
  | .assign x => some (dead1 (ev x))
  | .pick c x y => match ev c with
    | .v (.bool b) => some (if b = true then dead1 (ev x) else dead1 (ev y))
    | _ => none
  | .load t x => aload P h t (ev x)
  | .binOp op t x y _ => aBinAll P op t (ev x) (ev y)
  | .unOp op _ x => aUn op (ev x)
  | .convert s d x => aConv P s d (ev x)
  | .slice t x lo hi none => aslice P t (ev x) (lo.map ev) (hi.map ev)
  | .fieldAddr t x f => afieldAddr P t (ev x) f
  | .field t x f => afield P t (ev x) f
  | .indexAddr t x i => aindexAddr P t (ev x) (ev i)
  | .index t x i => aIndexVal P t (ev x) (ev i)
  | .build t ps => abuild P t (ps.toList.map fun p => (p.1, ev p.2))
  | .buildSlice t n ps => abuildSlice P t n (ps.toList.map fun p => (p.1, ev p.2))
  | .extract x i => match ev x with
    | .tup vs => (vs[i]?).map dead1
    | _ => none
  | .makeFunc (.func f) first cap => if first.toList = [] then some (.fn f (cap.toList.map fun x => dead1 (ev x))) else none
  | .nilCheck x => match ev x with
    | .ptr b o => some (.ptr b o)
    | .ea r o => some (.ea r o)
    | .fn f c => some (.fn f c)
    | _ => none
  | .call c => match c.callee with
    | .builtin b => aBuiltin P ev b c.args.toList c.argTypes.toList
    | _ => none
  | _ => none

/-- nobody may write through it -/
def Still (x : AV) (y : Value) : Prop := ∀ (G : Ghost) (w : World) (p : Own), LiveOK G w p x y

theorem Still.dead (x : AV) (y : Value) : Still (dead1 x) y := fun _ _ _ => LiveOK.dead x y
theorem Still.of_ne {x : AV} {y : Value} (h : dead1 x = x) : Still x y := fun _ _ _ => LiveOK.of_dead h

section
variable {P : Program} {w : World} {I : Imm}

theorem rowsBytes_get : ∀ {rows : List (List AV)} {bs : List UInt8}, rowsBytes rows = some bs → rows.length = bs.length ∧
    ∀ (i : Nat) (r : List AV), rows[i]? = some r → ∃ n, r = [.v (.int .u8 n)] ∧ bs[i]? = some (UInt8.ofNat n.toNat)
  | [], bs, h => by simp [rowsBytes] at h; subst h; simp
  | r :: rs, bs, h => by
    simp only [rowsBytes] at h
    cases hb : rowByte r with
    | none => simp [hb] at h
    | some b =>
      cases hr : rowsBytes rs with
      | none => simp [hb, hr] at h
      | some bs' =>
        simp [hb, hr] at h
        subst h
        obtain ⟨h1, h2⟩ := rowsBytes_get hr
        refine ⟨by simp [h1], fun i r' hi => ?_⟩
        cases i with
        | zero =>
          simp at hi
          subst hi
          unfold rowByte at hb
          split at hb
          · rename_i n; obtain rfl := Option.some.inj hb; exact ⟨n, rfl, rfl⟩
          · simp at hb
        | succ i => simpa using h2 i r' (by simpa using hi)

theorem foldl_push_bytes : ∀ (ns : List Int) (s : ByteArray), (ns.foldl (fun (r : ByteArray) (n : Int) => r.push (UInt8.ofNat n.toNat)) s) = ⟨s.data ++ (ns.map fun n => UInt8.ofNat n.toNat).toArray⟩
  | [], s => by
    show s = _
    cases s; simp
  | n :: ns, s => by
    simp only [List.foldl_cons]
    rw [foldl_push_bytes ns]
    cases s with
    | mk d => simp [ByteArray.push]

theorem aConv_sound {src dst : TypeId} {x r : AV} {y : Value} (hI : ∀ b i v, I b i = some v → w.cell? ⟨b, i, none⟩ = some v) (hx : Rep I x y) (h : aConv P src dst x = some r) :
    ∃ v, (Go.convert src dst y).run P w = .ok v w ∧ Rep I r v ∧ Still r v := by
  unfold aConv at h
  split at h
  · rename_i k n
    cases hx
    split at h
    · rename_i hs
      obtain ⟨d1, hd1⟩ := Option.isSome_iff_exists.1 hs
      unfold ikT at h
      split at h
      · rename_i kd hkd
        simp at h
        subst h
        refine ⟨.int kd (kd.wrap n), ?_, .v _, Still.of_ne rfl⟩
        unfold Go.convert
        simp only [Sem.run_bind, run_underlying hd1, run_underlying hkd, Result.andThen_ok]
        cases d1 <;> rfl
      · simp at h
    · simp at h
  · rename_i tag rows
    cases hs : slT P src with
    | none => simp [hs] at h
    | some e =>
      obtain ⟨inf, hu, hinf, hsz, _⟩ := slT_some hs
      simp only [hs] at h
      split at h
      · rename_i hc
        obtain ⟨he, h1, hd⟩ := hc
        cases hb : rowsBytes rows with
        | none => simp [hb] at h
        | some bs =>
          simp [hb] at h
          subst h
          obtain ⟨hl, hg⟩ := rowsBytes_get hb
          have heu : P.underlying e.1 = some (.int .u8) := by
            unfold ikT at he
            split at he
            · rename_i k hk; obtain rfl := Option.some.inj he; exact hk
            · simp at he
          have hdu : P.underlying dst = some .string := by
            unfold stringT at hd
            split at hd
            · assumption
            · simp at hd
          have hrows : ∀ r ∈ rows, r.length = 1 := fun r hr => by
            obtain ⟨i, hi, rfl⟩ := List.getElem_of_mem hr
            obtain ⟨n, hn, _⟩ := hg i rows[i] (by simp [hi])
            rw [hn]; rfl
          refine ⟨.string ⟨bs.toArray⟩, ?_, .v _, Still.of_ne rfl⟩
          cases y with
          | slice ad n cap =>
            rw [run_convert_bytes_string w src dst e.1 ad n cap hu heu hdu]
            cases ad with
            | none =>
              have : rows = [] := by cases hx; rfl
              subst this
              simp at hl
              have : bs = [] := by cases bs <;> simp at hl ⊢
              subst this
              rfl
            | some ad =>
              by_cases hr0 : rows = []
              · subst hr0
                simp at hl
                have hb0 : bs = [] := by cases bs <;> simp at hl ⊢
                subst hb0
                cases hx with
                | empty => rfl
                | sl => rfl
              obtain ⟨hn, _, _, b, o, rfl, cs, hro, hcs⟩ := Rows.of_rep hx hrows (.inr hr0)
              subst hn
              have hlen : cs.length = rows.length := by rw [hro.len]; simp
              have hval : ∀ k, k < rows.length → ∃ n, rows[k]? = some [.v (.int .u8 n)] ∧ cs[k]? = some (.int .u8 n) ∧ bs[k]? = some (UInt8.ofNat n.toNat) := fun k hk => by
                obtain ⟨n, hn, hbk⟩ := hg k rows[k] (by simp [hk])
                obtain ⟨v, hv, hrep⟩ := hro.rep k rows[k] 0 (.v (.int .u8 n)) (by simp [hk]) (by rw [hn]; rfl)
                cases hrep
                refine ⟨n, by simp [hk, ← hn], by simpa using hv, hbk⟩
              have hcs2 : ∃ ns : List Int, cs = ns.map (Value.int .u8) ∧ bs = ns.map fun n => UInt8.ofNat n.toNat := by
                refine ⟨cs.map fun v => match v with | .int _ n => n | _ => 0, ?_, ?_⟩
                · apply List.ext_getElem?
                  intro k
                  by_cases hk : k < rows.length
                  · obtain ⟨n, _, h2, _⟩ := hval k hk
                    simp [h2]
                  · rw [List.getElem?_eq_none (by omega), List.getElem?_eq_none (by simp; omega)]
                · apply List.ext_getElem?
                  intro k
                  by_cases hk : k < rows.length
                  · obtain ⟨n, _, h2, h3⟩ := hval k hk
                    simp [h2, h3]
                  · rw [List.getElem?_eq_none (by omega), List.getElem?_eq_none (by simp; omega)]
              obtain ⟨ns, rfl, rfl⟩ := hcs2
              have hload := load_cells (P := P) (w := w) (b := b) (o := o) (cs := ns.map (Value.int .u8)) hlen (fun j v hj => hI _ _ _ (hcs j v hj))
              rw [run_bytesToString w ⟨b, o, none⟩ rows.length cap ns hload, foldl_push_bytes]
              simp
          | _ => cases hx
      · simp at h
  · simp at h

theorem getElem?_bytes (s : ByteArray) (i : Nat) : s[i]? = if h : i < s.size then some s[i] else none := by
  by_cases h : i < s.size
  · simp [h]
  · simp [h]

theorem aBuiltin_sound {ev : Operand → AV} {ρ : Operand → Value} {b : Builtin} {args : Array Operand} {ts : Array TypeId} {ty : TypeId} {cs : Array Bool} {r : AV}
    (hρ : ∀ x ∈ args, Rep I (ev x) (ρ x)) (h : aBuiltin P ev b args.toList ts.toList = some r) :
    ∃ v, (Go.builtin b ts ty cs (args.map ρ)).run P w = .ok (.value v) w ∧ Rep I r v ∧ Still r v := by
  unfold aBuiltin at h
  split at h
  · rename_i x t ha ht
    have ha' : args = #[x] := by rw [← Array.toArray_toList (xs := args), ha]
    have ht' : ts = #[t] := by rw [← Array.toArray_toList (xs := ts), ht]
    subst ha'; subst ht'
    have hx := hρ x (by simp)
    unfold aLen at h
    split at h
    · rename_i tag rows hev
      rw [hev] at hx
      split at h
      · rename_i hs
        obtain rfl := Option.some.inj h
        obtain ⟨e, he⟩ := Option.isSome_iff_exists.1 hs
        obtain ⟨inf, hu, _⟩ := slT_some he
        refine ⟨.int .i64 rows.length, ?_, .v _, Still.of_ne rfl⟩
        generalize hq : ρ x = y at hx
        cases hx with
        | nil => simp [Go.builtin, Builtin.len_, run_underlying hu, hq]; rfl
        | empty => simp [Go.builtin, Builtin.len_, run_underlying hu, hq]; rfl
        | sl => simp [Go.builtin, Builtin.len_, run_underlying hu, hq]; rfl
      · simp at h
    · rename_i b' o n cp hev
      rw [hev] at hx
      split at h
      · rename_i hs
        obtain rfl := Option.some.inj h
        obtain ⟨e, he⟩ := Option.isSome_iff_exists.1 hs
        obtain ⟨inf, hu, _⟩ := slT_some he
        refine ⟨.int .i64 n, ?_, .v _, Still.of_ne rfl⟩
        generalize hq : ρ x = y at hx
        cases hx with
        | sm => simp [Go.builtin, Builtin.len_, run_underlying hu, hq]; rfl
      · simp at h
    · rename_i hev
      rw [hev] at hx
      split at h
      · rename_i hs
        obtain rfl := Option.some.inj h
        obtain ⟨e, he⟩ := Option.isSome_iff_exists.1 hs
        obtain ⟨inf, hu, _⟩ := slT_some he
        refine ⟨.int .i64 0, ?_, .v _, Still.of_ne rfl⟩
        generalize hq : ρ x = y at hx
        cases hx with
        | mn => simp [Go.builtin, Builtin.len_, run_underlying hu, hq]; rfl
      · simp at h
    · rename_i s hev
      rw [hev] at hx
      split at h
      · rename_i hs
        obtain rfl := Option.some.inj h
        have hu : P.underlying t = some .string := by
          unfold stringT at hs
          split at hs
          · assumption
          · simp at hs
        refine ⟨.int .i64 s.size, ?_, .v _, Still.of_ne rfl⟩
        generalize hq : ρ x = y at hx
        cases hx
        simp [Go.builtin, Builtin.len_, run_underlying hu, hq]; rfl
      · simp at h
    · simp at h
  · rename_i x y ha
    have ha' : args = #[x, y] := by rw [← Array.toArray_toList (xs := args), ha]
    subst ha'
    have hx := hρ x (by simp)
    have hy := hρ y (by simp)
    unfold aMax at h
    split at h
    · rename_i k a k' b h1 h2
      rw [h1] at hx; rw [h2] at hy
      obtain rfl := Option.some.inj h
      refine ⟨_, ?_, .v _, Still.of_ne rfl⟩
      generalize hq : ρ x = p at hx
      generalize hq2 : ρ y = q at hy
      cases hx; cases hy
      simp [Go.builtin, Builtin.max_, Builtin.max2, hq, hq2]
    · simp at h
  · rename_i x y ha
    have ha' : args = #[x, y] := by rw [← Array.toArray_toList (xs := args), ha]
    subst ha'
    have hx := hρ x (by simp)
    have hy := hρ y (by simp)
    unfold aMin at h
    split at h
    · rename_i k a k' b h1 h2
      rw [h1] at hx; rw [h2] at hy
      obtain rfl := Option.some.inj h
      refine ⟨_, ?_, .v _, Still.of_ne rfl⟩
      generalize hq : ρ x = p at hx
      generalize hq2 : ρ y = q at hy
      cases hx; cases hy
      simp [Go.builtin, Builtin.min_, Builtin.min2, hq, hq2]
    · simp at h
  · simp at h

theorem exec_value {o : Oper} {ρ : Operand → Value} {x : Sem Value} {v : Value} {w' : World} (he : execOp ρ o = (do let u ← x; pure (.value u))) (hx : x.run P w = .ok v w') :
    (execOp ρ o).run P w = .ok (.value v) w' := by
  rw [he]; simp [hx]

theorem aBinAll_sound {op : BinOp} {t : TypeId} {ox oy : Operand} {x y r : AV} {a b : Value} (hx : Rep I x a) (hy : Rep I y b) (h : aBinAll P op t x y = some r) :
    ∃ v, (do eqGuard op t ox oy a b; Go.binOp op t a b : Sem Value).run P w = .ok v w ∧ Rep I r v ∧ Still r v := by
  have seq : ∀ (neg : Bool) (xs ys : List AV), Rep I (.agg xs) a → Rep I (.agg ys) b → vT P t = some (xs.length, true) → ∀ q, aStructEq P t xs ys = some q →
      (do eqGuard (if neg then .neq else .eql) t ox oy a b; Go.binOp (if neg then .neq else .eql) t a b : Sem Value).run P w = .ok (.bool (if neg then !q else q)) w :=
    fun neg xs ys h1 h2 hv q hq => aStructEq_sound (x := (xs.length, true)) hv rfl h1 h2 rfl hq neg
  unfold aBinAll at h
  split at h
  · split at h
    · rename_i hv
      rename_i xs ys
      cases hq : aStructEq P t xs ys with
      | none => simp [hq] at h
      | some q =>
        simp [hq] at h
        subst h
        exact ⟨_, seq false xs ys hx hy hv q hq, .v _, Still.of_ne rfl⟩
    · simp at h
  · split at h
    · rename_i hv
      rename_i xs ys
      cases hq : aStructEq P t xs ys with
      | none => simp [hq] at h
      | some q =>
        simp [hq] at h
        subst h
        exact ⟨_, seq true xs ys hx hy hv q hq, .v _, Still.of_ne rfl⟩
    · simp at h
  · obtain ⟨v, hv, hrep⟩ := aBin_sound (P := P) (w := w) (ox := ox) (oy := oy) hx hy h
    refine ⟨v, hv, hrep, ?_⟩
    have : dead1 r = r := by
      unfold aBin at h
      split at h
      · split at h
        · obtain rfl := Option.some.inj h; rfl
        · simp at h
      · split at h
        · obtain rfl := Option.some.inj h; rfl
        · simp at h
      · split at h
        · split at h
          · obtain ⟨v, _, rfl⟩ := Option.map_eq_some_iff.1 h; rfl
          · simp at h
        · split at h
          · obtain ⟨v, _, rfl⟩ := Option.map_eq_some_iff.1 h; rfl
          · simp at h
    exact Still.of_ne this

theorem cellsAt_dead {n : Nat} {agg : Bool} {cells : List AV} {off : Nat} {r : AV} (h : cellsAt n agg cells off = some r) : dead1 r = r := by
  unfold cellsAt at h
  split at h
  · split at h
    · obtain rfl := Option.some.inj h; rfl
    · simp at h
  · cases hc : cells[off]? with
    | none => simp [hc] at h
    | some z => simp [hc] at h; subst h; simp

theorem map_agg_dead {x : Option (List AV)} {r : AV} (h : x.map AV.agg = some r) : dead1 r = r := by
  cases x <;> simp at h
  subst h; rfl

theorem buildN_sound {dst : Option Tmp} {t : TypeId} {ps : Array (Nat × Operand)} {type : TypeId} {pos : String} {after : Array Edge} {guard : Option (Nat × Bool)} {ev : Operand → AV} {ρ : Operand → Value} {h : Nat → Option (List AV)} {G : Ghost} {r : AV} (hh : HRel h G w)
    (hρ : ∀ x, Rep G.imm (ev x) (ρ x)) (ha : abuildN P t (ps.toList.map fun p => (p.1, ev p.2)) = some r) :
    ∃ v w' I', (execOp ρ ⟨dst, .build t ps, type, pos, after, guard⟩).run P w = .ok (.value v) w' ∧ Ext w G.imm w' I' ∧ Rep I' r v ∧ Still r v := by
  obtain ⟨v, hv, hrep⟩ := abuildN_sound (P := P) (w := w) (qs := ps.map fun (i, x) => (i, ρ x)) (by simp) (fun j p q hp hq => by
    simp only [List.getElem?_map, Array.getElem?_toList, Array.getElem?_map] at hp hq
    cases hz : ps[j]? with
    | none => simp [hz] at hp
    | some z =>
      simp [hz] at hp hq
      subst hp; subst hq
      exact ⟨rfl, hρ z.2⟩) ha
  refine ⟨_, w, G.imm, exec_value rfl hv, Ext.refl hh.imm, hrep, Still.of_ne ?_⟩
  unfold abuildN at ha
  split at ha
  · simp at ha
  · split at ha
    · exact map_agg_dead ha
    · split at ha
      · exact map_agg_dead ha
      · simp at ha

theorem aval_sound {o : Oper} {ev : Operand → AV} {ρ : Operand → Value} {h : Nat → Option (List AV)} {G : Ghost} {r : AV} (hh : HRel h G w)
    (hρ : ∀ x ∈ o.op.operands, Rep G.imm (ev x) (ρ x)) (ha : aval P ev h o.op = some r) :
    ∃ v w' I', (execOp ρ o).run P w = .ok (.value v) w' ∧ Ext w G.imm w' I' ∧ Rep I' r v ∧ Still r v := by
  have same : ∀ {r : AV} {v : Value}, (execOp ρ o).run P w = .ok (.value v) w → Rep G.imm r v → Still r v →
      ∃ v w' I', (execOp ρ o).run P w = .ok (.value v) w' ∧ Ext w G.imm w' I' ∧ Rep I' r v ∧ Still r v :=
    fun h1 h2 h3 => ⟨_, w, G.imm, h1, Ext.refl hh.imm, h2, h3⟩
  obtain ⟨dst, op, type, pos, after, guard⟩ := o
  simp only at hρ ha
  cases op with
  | move x =>
    simp only [aval, Option.some.injEq] at ha; subst ha
    exact same rfl (hρ x (by simp [Op.operands])).dead (Still.dead _ _)
  | assign x =>
    simp only [aval, Option.some.injEq] at ha; subst ha
    exact same rfl (hρ x (by simp [Op.operands])).dead (Still.dead _ _)
  | pick c x y =>
    simp only [aval] at ha
    have hc := hρ c (by simp [Op.operands])
    split at ha
    · rename_i b hb
      rw [hb] at hc
      generalize hq : ρ c = q at hc
      cases hc
      obtain rfl := Option.some.inj ha
      cases b with
      | true =>
        refine same (v := ρ x) ?_ ?_ ?_
        · simp [execOp, hq, asBool]
        · simpa using (hρ x (by simp [Op.operands])).dead
        · simpa using Still.dead _ _
      | false =>
        refine same (v := ρ y) ?_ ?_ ?_
        · simp [execOp, hq, asBool]
        · simpa using (hρ y (by simp [Op.operands])).dead
        · simpa using Still.dead _ _
    · simp at ha
  | load t x =>
    simp only [aval] at ha
    obtain ⟨v, hv, hrep⟩ := aload_sound (P := P) hh (hρ x (by simp [Op.operands])) ha
    refine same (exec_value rfl hv) hrep (Still.of_ne ?_)
    unfold aload at ha
    split at ha
    · simp at ha
    · split at ha
      · exact cellsAt_dead ha
      · split at ha
        · exact cellsAt_dead ha
        · simp at ha
      · simp at ha
  | binOp op t x y yt =>
    simp only [aval] at ha
    obtain ⟨v, hv, hrep, hst⟩ := aBinAll_sound (P := P) (w := w) (ox := x) (oy := y) (hρ x (by simp [Op.operands])) (hρ y (by simp [Op.operands])) ha
    exact same (exec_value rfl hv) hrep hst
  | unOp op t x =>
    simp only [aval, aUn] at ha
    split at ha
    · rename_i p hp
      have hx := hρ x (by simp [Op.operands])
      rw [hp] at hx
      generalize hq : ρ x = q at hx
      cases hx
      cases hu : Sem.val? (Op.unary op p) with
      | none => simp [hu] at ha
      | some u =>
        simp [hu] at ha
        subst ha
        exact same (exec_value rfl (by rw [hq]; exact run_of_val hu P w)) (.v _) (Still.of_ne rfl)
    · simp at ha
  | convert s d x =>
    simp only [aval] at ha
    obtain ⟨v, hv, hrep, hst⟩ := aConv_sound (P := P) hh.imm (hρ x (by simp [Op.operands])) ha
    exact same (exec_value rfl hv) hrep hst
  | slice t x lo hi mx =>
    cases mx with
    | some m => simp [aval] at ha
    | none =>
      simp only [aval] at ha
      obtain ⟨v, hv, hrep⟩ := aslice_sound (P := P) (w := w) (lo' := lo.map ρ) (hi' := hi.map ρ) (hρ x (by simp [Op.operands])) (by cases lo <;> simp)
        (fun p q hp hq => by cases lo with
          | none => simp at hp
          | some l => simp at hp hq; subst hp; subst hq; exact hρ l (by simp [Op.operands])) (by cases hi <;> simp)
        (fun p q hp hq => by cases hi with
          | none => simp at hp
          | some l => simp at hp hq; subst hp; subst hq; exact hρ l (by simp [Op.operands])) ha
      refine same (exec_value rfl hv) hrep (Still.of_ne ?_)
      unfold aslice at ha
      split at ha
      · split at ha
        · split at ha
          · obtain rfl := Option.some.inj ha; rfl
          · simp at ha
        · simp at ha
      · split at ha
        · split at ha
          · obtain rfl := Option.some.inj ha; rfl
          · split at ha
            · split at ha
              · obtain rfl := Option.some.inj ha; rfl
              · obtain rfl := Option.some.inj ha; rfl
            · simp at ha
        · simp at ha
      · split at ha
        · split at ha
          · obtain rfl := Option.some.inj ha; rfl
          · simp at ha
        · simp at ha
      · split at ha
        · split at ha
          · obtain rfl := Option.some.inj ha; rfl
          · simp at ha
        · simp at ha
      · simp at ha
  | fieldAddr t x f =>
    simp only [aval] at ha
    obtain ⟨v, hv, hrep⟩ := afieldAddr_sound (P := P) (w := w) (hρ x (by simp [Op.operands])) ha
    refine same (exec_value rfl hv) hrep (Still.of_ne ?_)
    unfold afieldAddr at ha
    split at ha
    · simp at ha
    · split at ha
      · obtain rfl := Option.some.inj ha; rfl
      · obtain rfl := Option.some.inj ha; rfl
      · simp at ha
  | field t x f =>
    simp only [aval] at ha
    obtain ⟨v, hv, hrep⟩ := afield_sound (P := P) (w := w) (hρ x (by simp [Op.operands])) ha
    refine same (exec_value rfl hv) hrep (Still.of_ne ?_)
    unfold afield at ha
    split at ha
    · exact cellsAt_dead ha
    · simp at ha
  | indexAddr t x i =>
    simp only [aval] at ha
    obtain ⟨v, hv, hrep⟩ := aindexAddr_sound (P := P) (w := w) (hρ x (by simp [Op.operands])) (hρ i (by simp [Op.operands])) ha
    refine same (exec_value rfl hv) hrep (Still.of_ne ?_)
    unfold aindexAddr at ha
    split at ha
    · simp at ha
    · split at ha
      · split at ha
        · split at ha
          · split at ha
            · split at ha
              · obtain rfl := Option.some.inj ha; rfl
              · simp at ha
            · simp at ha
          · simp at ha
        · simp at ha
      · split at ha
        · split at ha
          · obtain rfl := Option.some.inj ha; rfl
          · simp at ha
        · simp at ha
      · split at ha
        · split at ha
          · obtain rfl := Option.some.inj ha; rfl
          · simp at ha
        · simp at ha
      · simp at ha
  | index t x i =>
    simp only [aval, aIndexVal] at ha
    have hx := hρ x (by simp [Op.operands])
    have hi := hρ i (by simp [Op.operands])
    split at ha
    · rename_i s n hs hn
      rw [hs] at hx
      obtain ⟨k, hk⟩ := aIdx_some hi hn
      generalize hq : ρ x = q at hx
      cases hx
      split at ha
      · rename_i hc
        obtain ⟨hst, h0⟩ := hc
        have hu : P.underlying t = some .string := by
          unfold stringT at hst
          split at hst
          · assumption
          · simp at hst
        cases hb : s[n.toNat]? with
        | none => simp [hb] at ha
        | some b =>
          simp [hb] at ha
          subst ha
          refine same (exec_value (x := Instr.index t (ρ x) (ρ i)) rfl ?_) (.v _) (Still.of_ne rfl)
          rw [hq, hk]
          simp [Instr.index, run_asIntOf, run_underlying hu, h0, hb]
      · simp at ha
    · simp at ha
  | build t ps =>
    simp only [aval] at ha
    obtain ⟨v, hv, hrep⟩ := abuild_sound (P := P) (w := w) (qs := ps.map fun (i, x) => (i, ρ x)) (by simp) (fun j p q hp hq => by
      simp only [List.getElem?_map, Array.getElem?_toList, Array.getElem?_map] at hp hq
      cases hz : ps[j]? with
      | none => simp [hz] at hp
      | some z =>
        simp [hz] at hp hq
        subst hp; subst hq
        exact ⟨rfl, hρ z.2 (by simp [Op.operands]; exact ⟨z.1, Array.mem_of_getElem? hz⟩)⟩) ha
    refine same (exec_value rfl hv) hrep (Still.of_ne ?_)
    unfold abuild at ha
    split at ha
    · simp at ha
    · split at ha
      · exact map_agg_dead ha
      · split at ha
        · exact map_agg_dead ha
        · simp at ha
  | buildSlice t n ps =>
    simp only [aval] at ha
    obtain ⟨v, w', I', hv, hext, hrep, hst, _⟩ := abuildSlice_sound (P := P) (w := w) (qs := ps.map fun (i, x) => (i, ρ x)) hh.imm (by simp) (fun j p q hp hq => by
      simp only [List.getElem?_map, Array.getElem?_toList, Array.getElem?_map] at hp hq
      cases hz : ps[j]? with
      | none => simp [hz] at hp
      | some z =>
        simp [hz] at hp hq
        subst hp; subst hq
        exact ⟨rfl, hρ z.2 (by simp [Op.operands]; exact ⟨z.1, Array.mem_of_getElem? hz⟩)⟩) ha
    exact ⟨v, w', I', exec_value rfl hv, hext, hrep, hst⟩
  | extract x i =>
    simp only [aval] at ha
    have hx := hρ x (by simp [Op.operands])
    split at ha
    · rename_i vs hvs
      rw [hvs] at hx
      generalize hq : ρ x = q at hx
      cases hx with
      | tup cs hl hr =>
        cases hz : vs[i]? with
        | none => simp [hz] at ha
        | some z =>
          simp [hz] at ha
          subst ha
          have hi := lt_of_get hz
          have hic : i < cs.length := by omega
          refine same (exec_value (x := Instr.extract (ρ x) i) rfl ?_) (hr i z cs[i] hz (by simp [hic])).dead (Still.dead _ _)
          rw [hq]
          simp [Instr.extract, hic]
    · simp at ha
  | makeFunc fn first cap =>
    cases fn with
    | func f =>
      simp only [aval] at ha
      split at ha
      · rename_i hf
        obtain rfl := Option.some.inj ha
        have hf' : first = #[] := by rw [← Array.toArray_toList (xs := first), hf]
        subst hf'
        refine same (v := .func (.func f) #[] (cap.map ρ)) (by simp [execOp, Instr.makeFunc]) ?_ (Still.of_ne rfl)
        have : cap.map ρ = (cap.toList.map ρ).toArray := by rw [← Array.toList_map, Array.toArray_toList]
        rw [this]
        refine .fn _ (by simp) fun j x y hx hy => ?_
        simp only [List.getElem?_map] at hx hy
        cases hz : cap.toList[j]? with
        | none => simp [hz] at hx
        | some z =>
          simp [hz] at hx hy
          subst hx; subst hy
          exact (hρ z (by simp [Op.operands]; exact Array.mem_toList_iff.1 (List.mem_of_getElem? hz))).dead
      · simp at ha
    | _ => simp [aval] at ha
  | nilCheck x =>
    simp only [aval] at ha
    have hx := hρ x (by simp [Op.operands])
    split at ha
    · rename_i b o hb
      rw [hb] at hx
      obtain rfl := Option.some.inj ha
      generalize hq : ρ x = q at hx
      cases hx
      exact same (v := ρ x) (by simp [execOp, hq]) (by rw [hq]; exact .ptr _ _) (Still.of_ne rfl)
    · rename_i row o hb
      rw [hb] at hx
      obtain rfl := Option.some.inj ha
      generalize hq : ρ x = q at hx
      cases hx with
      | ea c h1 h2 => exact same (v := ρ x) (by simp [execOp, hq]) (by rw [hq]; exact .ea c h1 h2) (Still.of_ne rfl)
    · rename_i f c hb
      rw [hb] at hx
      obtain rfl := Option.some.inj ha
      generalize hq : ρ x = q at hx
      cases hx with
      | fn cs h1 h2 => exact same (v := ρ x) (by simp [execOp, hq]) (by rw [hq]; exact .fn cs h1 h2) (Still.of_ne rfl)
    · simp at ha
  | call c =>
    simp only [aval] at ha
    split at ha
    · rename_i b hb
      obtain ⟨v, hv, hrep, hst⟩ := aBuiltin_sound (P := P) (w := w) (ρ := ρ) (ty := type) (cs := c.args.map fun | .const _ => true | _ => false) (fun x hx => hρ x (by simp [Op.operands, Call.operands, hb]; exact hx)) ha
      refine same ?_ hrep hst
      obtain ⟨callee, args, argTypes⟩ := c
      simp only at hb
      subst hb
      simp only [execOp, resolve, Sem.run_bind, Sem.run_pure, Result.andThen_ok, invoke]
      exact hv
    · simp at ha
  | _ => simp [aval] at ha

end
end Go.Rw
