/- Parts of the proof: what is used by the law. No condition. -/
import Derived.Test.YtjbbfiagijjdoaaGreatRows
import Derived.Test.YtjbbfiagijjdoaaGreatGD
set_option linter.unusedSimpArgs false
set_option linter.unusedVariables false
/- Plain: books and cells grow; states whose books and cells can be. No condition. -/
set_option linter.unusedSimpArgs false
set_option linter.unusedVariables false
set_option maxRecDepth 10000
namespace Go.Proofs.YtjbbfiagijjdoaaGreat
open Go Go.Rw Go.Proofs

/-! ### tags -/
theorem lessT_iff (a b : PTag) : lessT a b = true ↔ a.num < b.num ∨ (a.num = b.num ∧ a.node < b.node) := by
  rw [lessT_eq]
  by_cases h : a.num = b.num
  · simp [h]
  · simp [h]
theorem lessT_no (a b : PTag) : lessT a b = false ↔ ¬ (a.num < b.num ∨ (a.num = b.num ∧ a.node < b.node)) := by
  rw [← lessT_iff]; simp
theorem lessT_trans {a b c : PTag} (h1 : lessT b a = false) (h2 : lessT c b = false) : lessT c a = false := by
  rw [lessT_no] at *; omega
theorem lessT_asym {a b : PTag} (h : lessT a b = true) : lessT b a = false := by
  rw [lessT_iff] at h; rw [lessT_no]; omega
theorem newer_left (x y : PEntry) : lessT (newerE x y).tag x.tag = false := by
  unfold newerE
  cases h : lessT x.tag y.tag
  · simp [lessT_self]
  · simp [lessT_asym h]
theorem newer_rightT (x y : PEntry) : lessT (newerE x y).tag y.tag = false := by
  unfold newerE
  cases h : lessT x.tag y.tag
  · simp [h]
  · simp [lessT_self]
/-! ### books -/
def keyE (x : PEntry) : Int := x.key
/-- a book that can be -/
def okB (b : List PEntry) : Prop := sortK keyE b ∧ ∀ x ∈ b, 0 ≤ x.key ∧ x.key < 4 ∧ rightT x.tag = true ∧ 0 < x.tag.num
theorem checkE_iff : ∀ (b : List PEntry) (last : Int), checkE last b = true ↔ sortK keyE b ∧ ∀ x ∈ b, last < x.key ∧ x.key < 4 ∧ rightT x.tag = true ∧ ¬ x.tag.num = 0
  | [], last => by simp [checkE, sortK]
  | y :: b, last => by
    rw [checkE, Bool.and_eq_true, checkE_iff b y.key]
    unfold sortK
    rw [List.pairwise_cons]
    constructor
    · rintro ⟨h1, h2, h3⟩
      have h4 := okE_of h1
      refine ⟨⟨fun x hx => (h3 x hx).1, h2⟩, fun x hx => ?_⟩
      rcases List.mem_cons.1 hx with rfl | hx
      · exact h4
      · have := h3 x hx; exact ⟨by have := h4.1; omega, this.2⟩
    · rintro ⟨⟨h1, h2⟩, h3⟩
      have h4 := h3 y (by simp)
      exact ⟨okE_5 _ _ (by omega) (by omega) h4.2.2.1 h4.2.2.2, h2, fun x hx => ⟨h1 x hx, (h3 x (by simp [hx])).2⟩⟩
theorem rightT_num {t : PTag} (h : rightT t = true) : 0 ≤ t.num := by simp [rightT] at h; exact h.1.1
theorem okB_iff (b : List PEntry) : checkE (-1) b = true ↔ okB b := by
  rw [checkE_iff]
  unfold okB
  refine and_congr Iff.rfl ⟨fun h x hx => ?_, fun h x hx => ?_⟩
  · obtain ⟨h1, h2, h3, h4⟩ := h x hx
    have := rightT_num h3
    exact ⟨by omega, h2, h3, by omega⟩
  · obtain ⟨h1, h2, h3, h4⟩ := h x hx
    exact ⟨by omega, h2, h3, by omega⟩
theorem okB_nil : okB [] := ⟨List.Pairwise.nil, fun x hx => by simp at hx⟩
theorem findE_look (b : List PEntry) (k : Int) : findE b k = (lookK keyE b k).getD ⟨k, ⟨0, 0⟩, 0⟩ := rfl
theorem findE_key (b : List PEntry) (k : Int) : (findE b k).key = k := by
  rw [findE_look]
  cases h : lookK keyE b k with
  | none => rfl
  | some x => exact (look_some h).2
theorem newer_key {x y : PEntry} {k : Int} (hx : x.key = k) (hy : y.key = k) : (newerE x y).key = k := by unfold newerE; split <;> assumption
theorem mergeE1_mem {a b : List PEntry} {k : Int} {x : PEntry} : x ∈ mergeE1 a b k ↔ x.key = k ∧ x = newerE (findE a k) (findE b k) ∧ 0 < x.tag.num := by
  unfold mergeE1
  have hk := newer_key (findE_key a k) (findE_key b k)
  generalize newerE (findE a k) (findE b k) = e at *
  by_cases h : 0 < e.tag.num
  · rw [if_pos h, List.mem_singleton]
    constructor
    · rintro rfl; exact ⟨hk, rfl, h⟩
    · exact fun h => h.2.1
  · rw [if_neg h]
    constructor
    · intro h1; simp at h1
    · rintro ⟨_, rfl, h2⟩; exact absurd h2 h
theorem mergeK_mem {a b : List PEntry} {m : Nat} {x : PEntry} : x ∈ mergeK a b m ↔ (0 ≤ x.key ∧ x.key < m) ∧ x = newerE (findE a x.key) (findE b x.key) ∧ 0 < x.tag.num := by
  induction m with
  | zero => simp [mergeK]; omega
  | succ k ih =>
    rw [mergeK, List.mem_append, ih, mergeE1_mem]
    constructor
    · rintro (⟨⟨h1, h2⟩, h3⟩ | ⟨h1, h2, h3⟩)
      · exact ⟨⟨h1, by omega⟩, h3⟩
      · exact ⟨⟨by omega, by omega⟩, by rw [h1]; exact h2, h3⟩
    · rintro ⟨⟨h1, h2⟩, h3, h4⟩
      by_cases h : x.key < k
      · exact .inl ⟨⟨h1, h⟩, h3, h4⟩
      · have e : x.key = (k : Int) := by omega
        exact .inr ⟨e, by rw [← e]; exact h3, h4⟩
theorem mergeK_sorted (a b : List PEntry) (m : Nat) : sortK keyE (mergeK a b m) := by
  unfold sortK
  induction m with
  | zero => simp [mergeK]
  | succ k ih =>
    rw [mergeK, List.pairwise_append]
    refine ⟨ih, ?_, fun x hx y hy => ?_⟩
    · have := mergeE1_le a b k
      match h : mergeE1 a b k with
      | [] => simp
      | [_] => simp
      | _ :: _ :: _ => rw [h] at this; simp at this
    · have h1 := (mergeK_mem.1 hx).1
      have h2 := (mergeE1_mem.1 hy).1
      unfold keyE
      omega
theorem okB_merge {a b : List PEntry} (ha : ∀ x ∈ a, rightT x.tag = true) (hb : ∀ x ∈ b, rightT x.tag = true) : okB (mergeE a b) := by
  refine ⟨mergeK_sorted a b 4, fun x hx => ?_⟩
  obtain ⟨⟨h1, h2⟩, h3, h4⟩ := mergeK_mem.1 hx
  refine ⟨h1, h2, ?_, h4⟩
  rw [h3]
  exact newer_right (findE_right ha) (findE_right hb)
theorem okB.right {b : List PEntry} (h : okB b) : ∀ x ∈ b, rightT x.tag = true := fun x hx => (h.2 x hx).2.2.1
theorem findE_ok {b : List PEntry} (h : okB b) (k : Int) : findE b k = ⟨k, ⟨0, 0⟩, 0⟩ ∨ (0 ≤ k ∧ k < 4 ∧ 0 < (findE b k).tag.num ∧ lookK keyE b k = some (findE b k)) := by
  rw [findE_look]
  cases e : lookK keyE b k with
  | none => exact .inl rfl
  | some x =>
    obtain ⟨h1, h2⟩ := look_some e
    obtain ⟨h3, h4, _, h5⟩ := h.2 x h1
    unfold keyE at h2
    exact .inr ⟨by omega, by omega, h5, rfl⟩
theorem findE_merge {a b : List PEntry} (ha : okB a) (hb : okB b) (k : Int) : findE (mergeE a b) k = newerE (findE a k) (findE b k) := by
  have hk := newer_key (findE_key a k) (findE_key b k)
  have hn : newerE (findE a k) (findE b k) = ⟨k, ⟨0, 0⟩, 0⟩ ∨ (0 ≤ k ∧ k < 4 ∧ 0 < (newerE (findE a k) (findE b k)).tag.num) := by
    unfold newerE
    split
    · rcases findE_ok hb k with h | ⟨h1, h2, h3, _⟩
      · exact .inl h
      · exact .inr ⟨h1, h2, h3⟩
    · rcases findE_ok ha k with h | ⟨h1, h2, h3, _⟩
      · exact .inl h
      · exact .inr ⟨h1, h2, h3⟩
  rcases hn with h | ⟨h1, h2, h3⟩
  · rw [h, findE_look, look_none.2]
    · rfl
    · intro x hx hxk
      obtain ⟨_, h4, h5⟩ := mergeK_mem.1 hx
      unfold keyE at hxk
      rw [hxk] at h4
      rw [h4, h] at h5
      simp at h5
  · have hm : newerE (findE a k) (findE b k) ∈ mergeE a b := mergeK_mem.2 ⟨by rw [hk]; exact ⟨h1, by omega⟩, by rw [hk], h3⟩
    have := (look_mem (mergeK_sorted a b 4)).1 hm
    rw [show keyE (newerE (findE a k) (findE b k)) = k from hk] at this
    rw [findE_look, mergeE, this]
    rfl
theorem findE_one (e : PEntry) (k : Int) : findE [e] k = if e.key = k then e else ⟨k, ⟨0, 0⟩, 0⟩ := by
  unfold findE
  by_cases h : e.key = k
  · simp [h]
  · simp [h]
/-! ### cells -/
theorem ofC_merge {a b : List PCell} (ha : okCs a) (hb : okCs b) (n : Int) : ofC (mergeC a b) n = if (ofC a n).isSome then ofC a n else ofC b n := by
  have hm := okCs_merge a b
  cases h : ofC (mergeC a b) n with
  | some v =>
    obtain ⟨_, h2 | ⟨h2, h3⟩⟩ := mergeCK_mem.1 (ofC_some h)
    · simp only at h2; rw [h2]; simp
    · simp only at h2 h3; rw [h2, h3]; simp
  | none =>
    cases h1 : ofC a n with
    | some v =>
      have hin := ha.2 _ (ofC_some h1)
      exact absurd rfl (ofC_none.1 h ⟨n, v⟩ (mergeCK_mem.2 ⟨hin, .inl h1⟩))
    | none =>
      cases h2 : ofC b n with
      | some v =>
        have hin := hb.2 _ (ofC_some h2)
        exact absurd rfl (ofC_none.1 h ⟨n, v⟩ (mergeCK_mem.2 ⟨hin, .inr ⟨h1, h2⟩⟩))
      | none => simp
theorem ofC_one (c : PCell) (n : Int) : ofC [c] n = if c.node = n then some c.change else none := by
  unfold ofC
  by_cases h : c.node = n
  · simp [h]
  · simp [h]
/-- cells whose changes can be -/
def okCh (l : List PCell) : Prop := okCs l ∧ ∀ c ∈ l, rightV c.change = true ∧ ¬ sizeV c.change = 0
theorem checkC_iff : ∀ (b : List PCell) (last : Int), checkC last b = true ↔ b.Pairwise (fun x y => x.node < y.node) ∧ ∀ x ∈ b, last < x.node ∧ x.node < 6 ∧ rightV x.change = true ∧ ¬ sizeV x.change = 0
  | [], last => by simp [checkC]
  | y :: b, last => by
    rw [checkC, Bool.and_eq_true, checkC_iff b y.node, List.pairwise_cons]
    constructor
    · rintro ⟨h1, h2, h3⟩
      have h4 : last < y.node ∧ y.node < 6 ∧ rightV y.change = true ∧ ¬ sizeV y.change = 0 := by simpa [okC, and_assoc] using h1
      refine ⟨⟨fun x hx => (h3 x hx).1, h2⟩, fun x hx => ?_⟩
      rcases List.mem_cons.1 hx with rfl | hx
      · exact h4
      · have := h3 x hx; exact ⟨by have := h4.1; omega, this.2⟩
    · rintro ⟨⟨h1, h2⟩, h3⟩
      have h4 := h3 y (by simp)
      exact ⟨by simpa [okC, and_assoc] using h4, h2, fun x hx => ⟨h1 x hx, (h3 x (by simp [hx])).2⟩⟩
theorem okCh_iff (b : List PCell) : checkC (-1) b = true ↔ okCh b := by
  rw [checkC_iff]
  unfold okCh okCs
  constructor
  · rintro ⟨h1, h2⟩
    exact ⟨⟨h1, fun x hx => by have := h2 x hx; omega⟩, fun x hx => (h2 x hx).2.2⟩
  · rintro ⟨⟨h1, h2⟩, h3⟩
    exact ⟨h1, fun x hx => by have := h2 x hx; exact ⟨by omega, by omega, h3 x hx⟩⟩
theorem okCh_merge {a b : List PCell} (ha : okCh a) (hb : okCh b) : okCh (mergeC a b) := by
  refine ⟨okCs_merge a b, fun c hc => ?_⟩
  obtain ⟨_, h | ⟨_, h⟩⟩ := mergeCK_mem.1 hc
  · exact ha.2 _ (ofC_some h)
  · exact hb.2 _ (ofC_some h)
/-! ### states -/
/-- a state whose books and cells can be -/
structure OkT (n : Nat) (s : PState) : Prop extends OkN n s where
  bk : ∀ x ∈ s.books, okB x.book
  ck : ∀ x ∈ s.cells, okCh x.cells
theorem OkT.bookOk {n : Nat} {s : PState} (h : OkT n s) (v : PView) : okB (bookS s v) := by
  rw [bookS_look h.sb]
  cases e : lookK keyVB s.books (nameV v) with
  | none => exact okB_nil
  | some x => exact h.bk x (look_some e).1
theorem OkT.cellsOk {n : Nat} {s : PState} (h : OkT n s) (v : PView) : okCh (cellsS s v) := by
  rw [cellsS_look h.sc]
  cases e : lookK keyVC s.cells (nameV v) with
  | none => exact ⟨okCs_nil, fun x hx => by simp at hx⟩
  | some x => exact h.ck x (look_some e).1
theorem RightR.entry {r : PRec} (h : RightR r) (hk : r.kind = 1) : okB [r.entry] := by
  cases h with
  | value v e h hv h1 h2 h3 h4 =>
    subst h
    refine ⟨by simp [sortK], fun x hx => ?_⟩
    simp at hx; subst hx
    have := rightT_num h3
    exact ⟨h1, h2, h3, by omega⟩
  | cell v c h => subst h; simp at hk
  | mark v h => subst h; simp at hk
  | num k n h hk' => subst h; simp only at hk; omega
  | intent v u h => subst h; simp at hk
theorem RightR.ccell {r : PRec} (h : RightR r) (hk : r.kind = 2) : okCh [r.cell] := by
  cases h with
  | value v e h => subst h; simp at hk
  | cell v c h hv h1 h2 h3 h4 =>
    subst h
    refine ⟨okCs_one ⟨h1, h2⟩, fun x hx => ?_⟩
    simp at hx; subst hx
    exact ⟨h3, by omega⟩
  | mark v h => subst h; simp at hk
  | num k n h hk' => subst h; simp only at hk; omega
  | intent v u h => subst h; simp at hk
theorem okT_apply {n : Nat} {s : PState} (h : OkT n s) {r : PRec} (hr : rightR r = true) : OkT (n + 1) (applyS s r) := by
  have hn := okN_apply h.toOkN hr
  refine ⟨hn, fun x hx => ?_, fun x hx => ?_⟩
  · rw [look_mem hn.sb, apply_books] at hx
    split at hx
    · rename_i hk
      obtain rfl := Option.some.inj hx
      exact okB_merge (h.bookOk r.view).right ((rightR_of hr).entry hk.1).right
    · exact h.bk x (look_some hx).1
  · rw [look_mem hn.sc, apply_cells] at hx
    split at hx
    · rename_i hk
      obtain rfl := Option.some.inj hx
      show okCh (mergeS _ _)
      rw [mergeS_eq (h.cells r.view) (okCs_one (right_cell hr).2)]
      exact okCh_merge (h.cellsOk r.view) ((rightR_of hr).ccell hk.1)
    · exact h.ck x (look_some hx).1
theorem okT_new {v : PView} (h : rightV v = true) : OkT 0 (newS v) := ⟨okN_new h, fun x hx => by simp [newS] at hx, fun x hx => by simp [newS] at hx⟩
theorem okT_fold {v : PView} (hv : rightV v = true) {l : List PRec} (hl : ∀ r ∈ l, rightR r = true) (k : Nat) (hk : k ≤ l.length) : OkT k (foldS v (l.take k)) := by
  induction k with
  | zero => simpa [foldS] using okT_new hv
  | succ k ih =>
    have hx : l[k]? = some l[k] := List.getElem?_eq_getElem (by omega)
    rw [foldS_step hx]
    exact okT_apply (ih (by omega)) (hl _ (List.mem_of_getElem? hx))
theorem OkT.mono {n m : Nat} {s : PState} (h : OkT n s) (hn : n ≤ m) : OkT m s := ⟨h.toOkN.mono hn, h.bk, h.ck⟩
/-- no book is less -/
theorem bookS_grows {n : Nat} {s : PState} (h : OkT n s) {r : PRec} (hr : rightR r = true) {v : PView} (hv : rightV v = true) (k : Int) : lessT (findE (bookS (applyS s r) v) k).tag (findE (bookS s v) k).tag = false := by
  rw [bookS_apply h.toOkN hr hv]
  split
  · rename_i hk
    rw [findE_merge (h.bookOk v) ((rightR_of hr).entry hk.1)]
    exact newer_left _ _
  · exact lessT_self _
theorem cellsS_grows {n : Nat} {s : PState} (h : OkT n s) {r : PRec} (hr : rightR r = true) {v : PView} (hv : rightV v = true) {k : Int} {u : PView} (hu : ofC (cellsS s v) k = some u) : ofC (cellsS (applyS s r) v) k = some u := by
  rw [cellsS_apply h.toOkN hr hv]
  split
  · rename_i hk
    rw [ofC_merge (h.cellsOk v).1 ((rightR_of hr).ccell hk.1).1, hu]
    simp
  · exact hu
end Go.Proofs.YtjbbfiagijjdoaaGreat

/- Plain: what a node answers, and what is there behind it. No condition. -/
set_option linter.unusedSimpArgs false
set_option linter.unusedVariables false
set_option maxRecDepth 10000
namespace Go.Proofs.YtjbbfiagijjdoaaGreat
open Go Go.Rw Go.Proofs

/-- the answer's head -/
def ansM (me : Int) (q : PMsg) : PMsg := ⟨7, me, q.frm, q.inc, q.seq, q.view, [], []⟩
def servable (me : Int) (q : PMsg) : Bool := decide (q.to = me) && decide (0 ≤ q.kind ∧ q.kind ≤ 4)
def recC (v : PView) (c : PCell) : PRec := ⟨2, v, c, zE, 0⟩
def recE (v : PView) (x : PEntry) : PRec := ⟨1, v, zC, x, 0⟩
def recV (v : PView) : PRec := ⟨3, v, zC, zE, 0⟩
/-- what is to be written -/
def wroteS (s : PState) (q : PMsg) : List PRec :=
  if q.kind = 1 then (newsC (cellsS s q.view) q.cells).map (recC q.view)
  else if q.kind = 3 then (newsE (bookS s q.view) q.book).map (recE q.view)
  else if q.kind = 4 then (if ¬ s.held = q.view ∧ withinV s.held q.view = true then [recV q.view] else [])
  else []
/-- what is answered -/
def tellS (me : Int) (s : PState) (q : PMsg) : PMsg :=
  if q.kind = 0 then { ansM me q with kind := 5, cells := cellsS s q.view }
  else if q.kind = 2 then { ansM me q with kind := 6, book := bookS s q.view }
  else ansM me q
def recsS (me : Int) (s : PState) (q : PMsg) : List PRec := if servable me q = true then wroteS s q else []
def answerS (me : Int) (s : PState) (q : PMsg) : PMsg := if servable me q = true then tellS me s q else zM

theorem samesE (l : List PEntry) : sameEs l l = true := by
  induction l with
  | nil => rfl
  | cons x l ih => simp [sameEs, sameE, ih]
theorem withinV_self (v : PView) : withinV v v = true := by
  have h : ∀ x : Int, andN x x = 0 := fun x => by
    unfold andN setN
    simp
  simp [withinV, minusV, h]
section
variable {q : PMsg}
theorem RightQ.cells (h : rightM q = true) : okCh q.cells := by
  simp only [rightM, Bool.and_eq_true, betweenB, decide_eq_true_eq] at h
  exact (okCh_iff _).1 h.1.2
theorem RightQ.book (h : rightM q = true) : okB q.book := by
  simp only [rightM, Bool.and_eq_true, betweenB, decide_eq_true_eq] at h
  exact (okB_iff _).1 h.2
end
/-! ### behind what was written -/
theorem list_grows {v : PView} (hv : rightV v = true) : ∀ {l : List PRec} {n : Nat} {s : PState}, OkT n s → (∀ r ∈ l, rightR r = true) → (∀ k, lessT (findE (bookS (l.foldl applyS s) v) k).tag (findE (bookS s v) k).tag = false) ∧ (∀ k u, ofC (cellsS s v) k = some u → ofC (cellsS (l.foldl applyS s) v) k = some u)
  | [], n, s, h, _ => ⟨fun k => lessT_self _, fun k u hu => hu⟩
  | r :: l, n, s, h, hl => by
    have hr := hl r (by simp)
    obtain ⟨i1, i2⟩ := list_grows hv (okT_apply h hr) (fun x hx => hl x (by simp [hx])) (l := l)
    rw [List.foldl_cons]
    exact ⟨fun k => lessT_trans (bookS_grows h hr hv k) (i1 k), fun k u hu => i2 k u (cellsS_grows h hr hv hu)⟩
/-- the state behind what was written -/
def behindS (s : PState) (q : PMsg) : PState := (wroteS s q).foldl applyS s
section
variable {n : Nat} {s : PState} {q : PMsg}
end
end Go.Proofs.YtjbbfiagijjdoaaGreat

/- Contracts: the document's books, cells and intents out of all records. No condition. -/
set_option linter.unusedSimpArgs false
set_option linter.unusedVariables false
set_option maxRecDepth 10000
namespace Go.Proofs.YtjbbfiagijjdoaaGreat
open Go Go.Rw Go.Proofs
-- a goal is never to be run by the elaborator
attribute [local irreducible] awp aops aop aopsE aeff

def bookL (l : List PRec) (v : PView) : List PEntry := l.foldl (fun b r => if r.kind = 1 ∧ r.view = v then mergeD b [r.entry] else b) []
def cellsL (l : List PRec) (v : PView) : List PCell := l.foldl (fun b r => if r.kind = 2 ∧ r.view = v then mergeC b [r.cell] else b) []
def intentL (l : List PRec) (v : PView) : Option PView := (l.find? fun r => decide (r.kind = 5 ∧ r.view = v)).map (·.cell.change)
theorem bookL_step {l : List PRec} {k : Nat} {r : PRec} {v : PView} (h : l[k]? = some r) : bookL (l.take (k + 1)) v = if r.kind = 1 ∧ r.view = v then mergeD (bookL (l.take k) v) [r.entry] else bookL (l.take k) v := by
  unfold bookL
  rw [List.take_add_one, h, List.foldl_append]; rfl
theorem cellsL_step {l : List PRec} {k : Nat} {r : PRec} {v : PView} (h : l[k]? = some r) : cellsL (l.take (k + 1)) v = if r.kind = 2 ∧ r.view = v then mergeC (cellsL (l.take k) v) [r.cell] else cellsL (l.take k) v := by
  unfold cellsL
  rw [List.take_add_one, h, List.foldl_append]; rfl
theorem view_eq {a b : PView} : a = b ↔ a.add = b.add ∧ a.del = b.del := by cases a; cases b; simp
def BlI (l : List PRec) (v : PView) (b1 : Nat) (t : Nat → AV) (h : Nat → Option (List AV)) : Prop := ∃ (k : Nat) (tag : Tag), t 3 = .ptr b1 0 ∧ t 5 = .sl tag (eEs (bookL (l.take k) v)) ∧ t 9 = .sl .no (eRs l) ∧ t 10 = eI l.length ∧ t 11 = eI k ∧ k ≤ l.length ∧ h b1 = some (eV v)
def BlM (l : List PRec) (v : PView) (t : Nat → AV) (h : Nat → Option (List AV)) : Prop := ∃ tag : Tag, t 5 = .sl tag (eEs (bookL l v))
theorem book12_spec (l : List PRec) (v : PView) (hl : l.length ≤ 1000000000) : ASpec Tryz.prog 38 [.sl .no (eRs l), .agg (eV v)] (fun r => ∃ tag, r = .sl tag (eEs (bookL l v))) := by
  refine ASpec.of_awp Tryz.func38 (by kernel_rfl) rfl (by rw [Tryz.results38]) Tryz.ntmps38 ?_
  simp -implicitDefEqProofs [eV]
  refine allocK.intro (fun b1 hb1 => ?_)
  simp -implicitDefEqProofs
  refine bsK.std ?_
  simp -implicitDefEqProofs
  intro _
  refine loopK.post (BlI l v b1) (fun t => l.length - natOf (t 11)) (BlM l v) ?_ ?_ ?_
  · exact ⟨0, _, by simp, by simp [bookL]; rfl, by simp, by simp, by simp, by omega, by simp [eV]⟩
  · rintro t hh ⟨k, tag, g3, g5, g9, g10, g11, hk, e3⟩
    by_cases hlt : k < l.length
    · have hlt' : (k : Int) < (l.length : Int) := by omega
      have hw : IntKind.i64.wrap ((k : Int) + 1) = ((k + 1 : Nat) : Int) := by rw [w64 (by omega) (by omega)]; omega
      obtain ⟨r, hx⟩ : ∃ r, l[k]? = some r := ⟨l[k], by simp [hlt]⟩
      have hst := bookL_step (v := v) hx
      simp -implicitDefEqProofs [g9, g10, g11, hlt', hx, eRc]
      refine allocK.intro (fun b2 hb2 => ?_)
      have n12 : ¬ b1 = b2 := by rintro rfl; rw [e3] at hb2; simp at hb2
      have n21 : ¬ b2 = b1 := fun h => n12 h.symm
      have e3' := e3
      rw [eV] at e3'
      by_cases h1 : r.kind = 1
      · by_cases h2 : r.view.add = v.add
        · by_cases h3 : r.view.del = v.del
          · rw [if_pos ⟨h1, view_eq.2 ⟨h2, h3⟩⟩] at hst
            have hm := merge7_spec (bookL (l.take k) v) [r.entry]
            generalize bookL (l.take k) v = cur at *
            simp -implicitDefEqProofs [g3, e3', n12, n21, h1, h2, h3, g5]
            refine CallK.via hm (by simp [eEs, eE]) ?_
            rintro _ ⟨tag2, rfl⟩
            simp -implicitDefEqProofs [g11, hw]
            exact ⟨⟨k + 1, _, by simp [g3], by rw [hst]; simp; rfl, by simp [g9], by simp [g10], by simp, by omega, by simp [n12, n21, e3]⟩, by omega⟩
          · rw [if_neg (fun h => h3 (view_eq.1 h.2).2)] at hst
            have h3' : (r.view.del == v.del) = false := by simpa using h3
            simp -implicitDefEqProofs [g3, e3', n12, n21, h1, h2, h3, h3', g11, hw]
            exact ⟨⟨k + 1, tag, by simp [g3], by rw [hst]; simp [g5], by simp [g9], by simp [g10], by simp, by omega, by simp [n12, n21, e3]⟩, by omega⟩
        · rw [if_neg (fun h => h2 (view_eq.1 h.2).1)] at hst
          have h2' : (r.view.add == v.add) = false := by simpa using h2
          simp -implicitDefEqProofs [g3, e3', n12, n21, h1, h2, h2', g11, hw]
          exact ⟨⟨k + 1, tag, by simp [g3], by rw [hst]; simp [g5], by simp [g9], by simp [g10], by simp, by omega, by simp [n12, n21, e3]⟩, by omega⟩
      · rw [if_neg (fun h => h1 h.1)] at hst
        simp -implicitDefEqProofs [g3, n12, n21, h1, g11, hw]
        exact ⟨⟨k + 1, tag, by simp [g3], by rw [hst]; simp [g5], by simp [g9], by simp [g10], by simp, by omega, by simp [n12, n21, e3]⟩, by omega⟩
    · have hlt' : ¬ (k : Int) < (l.length : Int) := by omega
      rw [List.take_of_length_le (by omega)] at g5
      simp -implicitDefEqProofs [g10, g11, hlt']
      exact ⟨tag, by simp [g5]⟩
  rintro t hh ⟨tag, g5⟩
  simp -implicitDefEqProofs [g5]
def ClI (l : List PRec) (v : PView) (b1 : Nat) (t : Nat → AV) (h : Nat → Option (List AV)) : Prop := ∃ (k : Nat) (tag : Tag), t 3 = .ptr b1 0 ∧ t 5 = .sl tag (eCs (cellsL (l.take k) v)) ∧ t 9 = .sl .no (eRs l) ∧ t 10 = eI l.length ∧ t 11 = eI k ∧ k ≤ l.length ∧ h b1 = some (eV v)
def ClM (l : List PRec) (v : PView) (t : Nat → AV) (h : Nat → Option (List AV)) : Prop := ∃ tag : Tag, t 5 = .sl tag (eCs (cellsL l v))
theorem cells12_spec (l : List PRec) (v : PView) (hl : l.length ≤ 1000000000) : ASpec Tryz.prog 41 [.sl .no (eRs l), .agg (eV v)] (fun r => ∃ tag, r = .sl tag (eCs (cellsL l v))) := by
  refine ASpec.of_awp Tryz.func41 (by kernel_rfl) rfl (by rw [Tryz.results41]) Tryz.ntmps41 ?_
  simp -implicitDefEqProofs [eV]
  refine allocK.intro (fun b1 hb1 => ?_)
  simp -implicitDefEqProofs
  refine bsK.std ?_
  simp -implicitDefEqProofs
  intro _
  refine loopK.post (ClI l v b1) (fun t => l.length - natOf (t 11)) (ClM l v) ?_ ?_ ?_
  · exact ⟨0, _, by simp, by simp [cellsL]; rfl, by simp, by simp, by simp, by omega, by simp [eV]⟩
  · rintro t hh ⟨k, tag, g3, g5, g9, g10, g11, hk, e3⟩
    by_cases hlt : k < l.length
    · have hlt' : (k : Int) < (l.length : Int) := by omega
      have hw : IntKind.i64.wrap ((k : Int) + 1) = ((k + 1 : Nat) : Int) := by rw [w64 (by omega) (by omega)]; omega
      obtain ⟨r, hx⟩ : ∃ r, l[k]? = some r := ⟨l[k], by simp [hlt]⟩
      have hst := cellsL_step (v := v) hx
      simp -implicitDefEqProofs [g9, g10, g11, hlt', hx, eRc]
      refine allocK.intro (fun b2 hb2 => ?_)
      have n12 : ¬ b1 = b2 := by rintro rfl; rw [e3] at hb2; simp at hb2
      have n21 : ¬ b2 = b1 := fun h => n12 h.symm
      have e3' := e3
      rw [eV] at e3'
      by_cases h1 : r.kind = 2
      · by_cases h2 : r.view.add = v.add
        · by_cases h3 : r.view.del = v.del
          · rw [if_pos ⟨h1, view_eq.2 ⟨h2, h3⟩⟩] at hst
            have hm := merge10_spec (cellsL (l.take k) v) [r.cell]
            generalize cellsL (l.take k) v = cur at *
            simp -implicitDefEqProofs [g3, e3', n12, n21, h1, h2, h3, g5]
            refine CallK.via hm (by simp [eCs, eC]) ?_
            rintro _ ⟨tag2, rfl⟩
            simp -implicitDefEqProofs [g11, hw]
            exact ⟨⟨k + 1, _, by simp [g3], by rw [hst]; simp; rfl, by simp [g9], by simp [g10], by simp, by omega, by simp [n12, n21, e3]⟩, by omega⟩
          · rw [if_neg (fun h => h3 (view_eq.1 h.2).2)] at hst
            have h3' : (r.view.del == v.del) = false := by simpa using h3
            simp -implicitDefEqProofs [g3, e3', n12, n21, h1, h2, h3, h3', g11, hw]
            exact ⟨⟨k + 1, tag, by simp [g3], by rw [hst]; simp [g5], by simp [g9], by simp [g10], by simp, by omega, by simp [n12, n21, e3]⟩, by omega⟩
        · rw [if_neg (fun h => h2 (view_eq.1 h.2).1)] at hst
          have h2' : (r.view.add == v.add) = false := by simpa using h2
          simp -implicitDefEqProofs [g3, e3', n12, n21, h1, h2, h2', g11, hw]
          exact ⟨⟨k + 1, tag, by simp [g3], by rw [hst]; simp [g5], by simp [g9], by simp [g10], by simp, by omega, by simp [n12, n21, e3]⟩, by omega⟩
      · rw [if_neg (fun h => h1 h.1)] at hst
        simp -implicitDefEqProofs [g3, n12, n21, h1, g11, hw]
        exact ⟨⟨k + 1, tag, by simp [g3], by rw [hst]; simp [g5], by simp [g9], by simp [g10], by simp, by omega, by simp [n12, n21, e3]⟩, by omega⟩
    · have hlt' : ¬ (k : Int) < (l.length : Int) := by omega
      rw [List.take_of_length_le (by omega)] at g5
      simp -implicitDefEqProofs [g10, g11, hlt']
      exact ⟨tag, by simp [g5]⟩
  rintro t hh ⟨tag, g5⟩
  simp -implicitDefEqProofs [g5]
end Go.Proofs.YtjbbfiagijjdoaaGreat

/- Contracts: what is alike is put together (views in memory of one's own). No condition. -/
set_option linter.unusedSimpArgs false
set_option linter.unusedVariables false
set_option maxRecDepth 10000
namespace Go.Proofs.YtjbbfiagijjdoaaGreat
open Go Go.Rw Go.Proofs
-- a goal is never to be run by the elaborator
attribute [local irreducible] awp aops aop aopsE aeff

def cmV (a b : PView) : Int := if lessV a b = true then -1 else if a = b then 0 else 1
theorem seenKey_spec (a b : PView) (ha : rightV a = true) (hb : rightV b = true) : ASpec Tryz.prog 83 [.agg (eV a), .agg (eV b)] (· = eI (cmV a b)) := by
  refine ASpec.of_awp Tryz.func83 (by kernel_rfl) rfl (by rw [Tryz.results83]) Tryz.ntmps83 ?_
  simp -implicitDefEqProofs [eV]
  refine allocK.intro (fun b1 hb1 => ?_)
  simp -implicitDefEqProofs
  refine allocK.intro (fun b2 hb2 => ?_)
  have n12 : ¬ b1 = b2 := by rintro rfl; simp at hb2
  have n21 : ¬ b2 = b1 := fun h => n12 h.symm
  simp -implicitDefEqProofs [n12, n21]
  refine CallK.with (less_spec a b ha hb) (by simp [eV]) ?_
  cases hl : lessV a b
  · by_cases he : a = b
    · subst he
      simp -implicitDefEqProofs [n12, n21, cmV, hl]
    · have h2 := ne_two (fun h => he (view_eq.2 h))
      have h3 : (a.add == b.add && a.del == b.del) = false := by
        cases h : (a.add == b.add && a.del == b.del)
        · rfl
        · simp at h; exact absurd (view_eq.2 h) he
      simp -implicitDefEqProofs [n12, n21, cmV, hl, he, h2, h3]
  · simp -implicitDefEqProofs [n12, n21, cmV, hl]
/-- what is alike and side by side is put together -/
def dedF (acc : List PView) (y : PView) : List PView := if acc.getLast? = some y then acc else acc ++ [y]
def dedA (l : List PView) : List PView := l.foldl dedF []
theorem snoc_ind {α : Type} {P : List α → Prop} (h0 : P []) (h1 : ∀ l y, P l → P (l ++ [y])) (l : List α) : P l := by
  have h : ∀ m : List α, P m.reverse := fun m => by
    induction m with
    | nil => exact h0
    | cons y m ih => rw [List.reverse_cons]; exact h1 _ _ ih
  have := h l.reverse
  rwa [List.reverse_reverse] at this
theorem dedA_snoc (l : List PView) (y : PView) : dedA (l ++ [y]) = dedF (dedA l) y := by simp [dedA]
theorem dedA_last (l : List PView) : (dedA l).getLast? = l.getLast? := by
  refine snoc_ind (P := fun l => (dedA l).getLast? = l.getLast?) rfl (fun l y ih => ?_) l
  rw [dedA_snoc, dedF]
  split
  · rename_i h; rw [h]; simp
  · simp
theorem dedA_step {d : Array PView} {i : Nat} (h1 : 1 ≤ i) (h : i < d.size) : dedA (d.toList.take (i + 1)) = if d[i]! = d[i - 1]! then dedA (d.toList.take i) else dedA (d.toList.take i) ++ [d[i]!] := by
  rw [List.take_add_one, get_bang h, Option.toList_some, dedA_snoc, dedF, dedA_last]
  have e : (d.toList.take i).getLast? = some d[i - 1]! := by
    rw [List.getLast?_eq_getElem?, List.length_take, Nat.min_eq_left (by simp; omega), List.getElem?_take_of_lt (by omega), get_bang (by omega)]
  rw [e]
  by_cases h2 : d[i]! = d[i - 1]!
  · rw [if_pos h2, if_pos (by rw [h2])]
  · rw [if_neg h2, if_neg (fun h3 => h2 (Option.some.inj h3).symm)]
theorem dedA_len (l : List PView) : (dedA l).length ≤ l.length := by
  refine snoc_ind (P := fun l => (dedA l).length ≤ l.length) (Nat.le_refl _) (fun l y ih => ?_) l
  simp only [dedA_snoc, dedF]
  split <;> simp <;> omega
theorem eVs_dead (l : List PView) : (eVs l).flatten.map dead1 = (eVs l).flatten := rowsV_dead l
theorem eVs_flat (l : List PView) : (eVs l).flatten.length = l.length * 2 := by
  induction l with
  | nil => rfl
  | cons x l ih => simp [eVs, eV] at *; omega
theorem chunks_views (l : List PView) (sp : List AV) : chunks ((eVs l).flatten ++ sp) (eVs l) 2 := by
  refine ⟨eVs_one l, ?_, ?_, ?_⟩
  · rw [show (eVs l).length * 2 = (eVs l).flatten.length by rw [eVs_flat]; simp, List.take_left, eVs_dead]
  · rw [List.length_append, eVs_flat]; simp
  · intro r hr x hx
    obtain ⟨c, _, rfl⟩ := List.mem_map.1 hr
    simp [eV] at hx
    rcases hx with rfl | rfl <;> rfl
def CmI (d : Array PView) (cap b1 : Nat) (sp : List AV) (t : Nat → AV) (h : Nat → Option (List AV)) : Prop := ∃ k : Nat, t 0 = .sm b1 0 d.size cap ∧ t 3 = eI k ∧ h b1 = some (memV d sp) ∧ 1 ≤ k ∧ k ≤ d.size ∧ dedA (d.toList.take k) = d.toList.take k
def CmM (d : Array PView) (cap b1 : Nat) (sp : List AV) (t : Nat → AV) (h : Nat → Option (List AV)) : Prop := t 0 = .sm b1 0 d.size cap ∧ h b1 = some (memV d sp) ∧ dedA d.toList = d.toList
def CmJ (d : Array PView) (cap b1 k0 : Nat) (sp : List AV) (t : Nat → AV) (h : Nat → Option (List AV)) : Prop := ∃ (k k2 : Nat) (D : Array PView), t 0 = .sm b1 0 d.size cap ∧ t 3 = eI k ∧ t 4 = .sm b1 (k0 * 2) (d.size - k0) (cap - k0) ∧ t 5 = eI k2 ∧ h b1 = some (memV D sp) ∧ D.size = d.size ∧ 1 ≤ k ∧ 1 ≤ k2 ∧ k2 ≤ d.size - k0 ∧ k + 1 ≤ k0 + k2 ∧
  D.toList.take k = dedA (d.toList.take (k0 + k2)) ∧ ∀ i, k ≤ i → D[i]! = d[i]!
def CmN (d : Array PView) (cap b1 : Nat) (sp : List AV) (t : Nat → AV) (h : Nat → Option (List AV)) : Prop := ∃ (k : Nat) (D : Array PView), t 0 = .sm b1 0 d.size cap ∧ t 3 = eI k ∧ h b1 = some (memV D sp) ∧ D.size = d.size ∧ 1 ≤ k ∧ k < d.size ∧ D.toList.take k = dedA d.toList
theorem compactV (d : Array PView) (sp : List AV) (b1 cap : Nat) (hcap : d.size ≤ cap) (hl : d.size ≤ 1000000000) :
    MSpec Tryz.prog 85 [.sm b1 0 d.size cap] (one b1 (memV d sp)) (fun r h' => ∃ sp', r = .sm b1 0 (dedA d.toList).length cap ∧ h' = one b1 ((eVs (dedA d.toList)).flatten ++ sp') ∧ (dedA d.toList).length * 2 + sp'.length = d.size * 2 + sp.length) := by
  refine MSpec.of_awp Tryz.func85 (by kernel_rfl) rfl (by rw [Tryz.results85]) Tryz.ntmps85 ?_
  have hm0 : memV d sp = (eVs d.toList).flatten ++ sp := rfl
  by_cases h2 : d.size < 2
  · have h2' : (d.size : Int) < 2 := by omega
    have hd : dedA d.toList = d.toList := by
      have hlen : d.toList.length = d.size := by simp
      generalize d.toList = l at *
      match l, hlen with
      | [], _ => rfl
      | [x], _ => rfl
      | x :: y :: l, h => simp at h; omega
    rw [hd]
    simp -implicitDefEqProofs [h2, h2']
    intro _
    exact ⟨one b1 (memV d sp), SubH_one.2 (by simp [Weak.refl]), sp, by rw [hm0], rfl⟩
  have h2' : ¬ (d.size : Int) < 2 := by omega
  simp -implicitDefEqProofs [h2, h2']
  intro _
  refine loopK.post (CmI d cap b1 sp) (fun t => d.size - natOf (t 3)) (CmM d cap b1 sp) ?_ ?_ ?_
  · refine ⟨1, by simp, by simp, by simp, by omega, by omega, ?_⟩
    have hlen : ¬ d.toList.length < 2 := by simpa using h2
    generalize d.toList = l at *
    match l, hlen with
    | [], h => simp at h
    | [x], h => simp at h
    | x :: y :: l, h => rfl
  · rintro t hh ⟨k, g0, g3, k1, hk1, hk2, hk⟩
    by_cases hlt : k < d.size
    · have hlt' : (k : Int) < (d.size : Int) := by omega
      have hst := dedA_step hk1 hlt
      have hwk : IntKind.i64.wrap ((k : Int) + 1) = ((k + 1 : Nat) : Int) := by rw [w64 (by omega) (by omega)] <;> omega
      obtain ⟨u1, u2⟩ := memV_at (d := d) (sp := sp) (k := k) (by omega)
      obtain ⟨u3, u4⟩ := memV_at (d := d) (sp := sp) (k := k - 1) (by omega)
      have htk : d.toList.take (k + 1) = d.toList.take k ++ [d[k]!] := by rw [List.take_add_one, get_bang hlt]; rfl
      have y2 : k - 1 < d.size := by omega
      have hw1 : IntKind.i64.wrap ((k : Int) - 1) = ((k - 1 : Nat) : Int) := by rw [w64 (by omega) (by omega)] <;> omega
      generalize k - 1 = m at *
      have y2' : (m : Int) < (d.size : Int) := by omega
      generalize hc1 : memV d sp = c1 at *
      generalize hX : d[k]! = x at *
      generalize hY : d[m]! = y at *
      simp -implicitDefEqProofs [g0, g3, hlt, hlt']
      intro _
      refine regionK.intro 10 follows_mixed (by kernel_rfl) ?_
      by_cases hxy : x = y
      · rw [if_pos hxy, hk] at hst
        simp -implicitDefEqProofs [g0, g3, hlt, hlt', hw1, y2, y2', k1, u1, u2, u3, u4, eV, hxy, Nat.le_of_lt hlt]
        have fit : 0 < d.size - k := by omega
        refine loopK.post (CmJ d cap b1 k sp) (fun t => d.size - k - natOf (t 5)) (CmN d cap b1 sp) ?_ ?_ ?_
        · exact ⟨k, 1, d, by simp [g0], by simp [g3], by simp, by simp, by simp [k1, hc1], rfl, hk1, by omega, by omega, by omega, hst.symm, fun i _ => rfl⟩
        · clear hst htk u1 u2 u3 u4 hw1 hX hY hxy y2 y2' g0 g3 k1 hk hwk hc1
          rintro t hh ⟨k', k2, D, g0, g3, g4, g5, k1, hD, h1, h3, h4, h5, h6, h7⟩
          by_cases hlt2 : k2 < d.size - k
          · have hlt2' : (k2 : Int) < ((d.size - k : Nat) : Int) := by omega
            have hst := dedA_step (d := d) (i := k + k2) (by omega) (by omega)
            obtain ⟨u1, u2⟩ := memV_at (d := D) (sp := sp) (k := k + k2) (by omega)
            obtain ⟨u3, u4⟩ := memV_at (d := D) (sp := sp) (k := k + k2 - 1) (by omega)
            rw [h7 _ (by omega)] at u2
            rw [h7 _ (by omega)] at u4
            have hw1 : IntKind.i64.wrap ((k2 : Int) - 1) = ((k2 - 1 : Nat) : Int) := by rw [w64 (by omega) (by omega)] <;> omega
            have hwk2 : IntKind.i64.wrap ((k2 : Int) + 1) = ((k2 + 1 : Nat) : Int) := by rw [w64 (by omega) (by omega)] <;> omega
            have hwk : IntKind.i64.wrap ((k' : Int) + 1) = ((k' + 1 : Nat) : Int) := by rw [w64 (by omega) (by omega)] <;> omega
            have a1 : k * 2 + k2 * 2 = (k + k2) * 2 := by omega
            have a2 : k * 2 + (k2 - 1) * 2 = (k + k2 - 1) * 2 := by omega
            have y1 : k2 - 1 < d.size - k := by omega
            have y1' : ((k2 - 1 : Nat) : Int) < ((d.size - k : Nat) : Int) := by omega
            have y3 : k' < d.size := by omega
            have y3' : (k' : Int) < (d.size : Int) := by omega
            have sset := memV_set (d := D) (sp := sp) (k := k') (x := d[k + k2]!) (by omega)
            have fit2 := (memV_at (d := D) (sp := sp) (k := k') (by omega)).1
            have hget : ∀ i, k' + 1 ≤ i → (D.setIfInBounds k' d[k + k2]!)[i]! = d[i]! := fun i hi => by
              rw [← h7 i (by omega)]
              simp only [getElem!_def, Array.getElem?_setIfInBounds]
              rw [if_neg (by omega)]
            have htk : (D.setIfInBounds k' d[k + k2]!).toList.take (k' + 1) = D.toList.take k' ++ [d[k + k2]!] := by
              rw [Array.toList_setIfInBounds, List.take_add_one, List.getElem?_set_self (by simp; omega), List.take_set, List.set_eq_of_length_le (by rw [List.length_take]; omega)]
              rfl
            generalize hD2 : D.setIfInBounds k' d[k + k2]! = D2 at *
            have hs2 : D2.size = d.size := by rw [← hD2, Array.size_setIfInBounds, hD]
            generalize hc1 : memV D sp = c1 at *
            generalize hc2 : memV D2 sp = c2 at *
            generalize hX : d[k + k2]! = x at *
            generalize hY : d[k + k2 - 1]! = y at *
            have sset : c1.take (k' * 2) ++ eI x.add :: eI x.del :: c1.drop (k' * 2 + 2) = c2 := by simpa [overlay, eV] using sset
            simp -implicitDefEqProofs [g0, g3, g4, g5, hlt2, hlt2']
            intro _
            refine regionK.intro 10 follows_mixed (by kernel_rfl) ?_
            by_cases hxy : x = y
            · rw [if_pos hxy] at hst
              simp -implicitDefEqProofs [g0, g3, g4, g5, hlt2, hlt2', hw1, hwk2, a1, a2, y1, y1', k1, u1, u2, u3, u4, eV, hxy]
              exact ⟨⟨k', k2 + 1, D, by simp [g0], by simp [g3], by simp [g4], by simp, by simp [k1, hc1], hD, h1, by omega, by omega, by omega, by rw [h6, ← hst]; rfl, h7⟩, by omega⟩
            · rw [if_neg hxy] at hst
              have hn2 := ne_two (fun h => hxy (view_eq.2 h))
              simp -implicitDefEqProofs [g0, g3, g4, g5, hlt2, hlt2', hw1, hwk2, hwk, a1, a2, y1, y1', y3, y3', k1, u1, u2, u3, u4, eV, hn2, sset, fit2]
              exact ⟨⟨k' + 1, k2 + 1, D2, by simp [g0], by simp, by simp [g4], by simp, by simp [hc2], hs2, by omega, by omega, by omega, by omega, by rw [htk, h6, ← hst]; rfl, hget⟩, by omega⟩
          · have hlt2' : ¬ (k2 : Int) < ((d.size - k : Nat) : Int) := by omega
            simp -implicitDefEqProofs [g0, g3, g4, g5, hlt2, hlt2']
            intro _
            refine ⟨k', D, by simp [g0], by simp [g3], k1, hD, h1, by omega, ?_⟩
            rw [h6, List.take_of_length_le (by simp; omega)]
        · clear hst htk u1 u2 u3 u4 hw1 hX hY hxy y2 y2' g0 g3 k1 hk hwk hc1 hlt hlt' hk1 hk2
          rintro t hh ⟨k', D, g0, g3, k1, hD, h1, h3, h6⟩
          have h3' : (k' : Int) < (d.size : Int) := by omega
          have hfl : k' * 2 + (d.size - k') * 2 ≤ (memV D sp).length := by
            have : (memV D sp).length = D.size * 2 + sp.length := by
              rw [show memV D sp = (eVs D.toList).flatten ++ sp from rfl, List.length_append, eVs_flat]; simp
            omega
          simp -implicitDefEqProofs [g0, g3, h3, h3', k1, Nat.le_of_lt h3]
          refine clearSm (e := 24) (sz := 2) (by_ := 16) (z := [eI 0, eI 0]) (by simp) (by simp) rfl (b := b1) (o := k' * 2) (n := d.size - k') (c := cap - k') (by simp) k1 hfl (fun zs hz => ?_)
          have hkl : (dedA d.toList).length = k' := by rw [← h6, List.length_take]; simp; omega
          have hov : overlay (memV D sp) (k' * 2) zs = (eVs (dedA d.toList)).flatten ++ (zs ++ sp) := by
            have e0 : memV D sp = (eVs D.toList).flatten ++ sp := rfl
            have fit := eVs_flat D.toList
            have e1 := flat_take (rows := eVs D.toList) (eVs_one D.toList) (k := k') (by simp; omega)
            unfold overlay
            rw [e0, List.take_append_of_le_length (by rw [fit]; simp; omega), e1, List.append_assoc, show k' * 2 + zs.length = (eVs D.toList).flatten.length by rw [fit, hz]; simp; omega, List.drop_left, ← h6]
            simp [eVs]
          generalize hq : overlay (memV D sp) (k' * 2) zs = q at *
          have fin : ∃ sp', q = (eVs (dedA d.toList)).flatten ++ sp' ∧ (dedA d.toList).length * 2 + sp'.length = d.size * 2 + sp.length := ⟨_, hov, by rw [hkl, List.length_append, hz]; omega⟩
          obtain ⟨sp', e1, e2⟩ := fin
          have h0 : 0 < k' := by omega
          have hile : (k' : Int) ≤ (d.size : Int) := by omega
          simp -implicitDefEqProofs [g0, g3, h0, h3, h3', Nat.le_of_lt h3]
          exact ⟨one b1 q, SubH_one.2 (by simp [Weak.refl]), hkl.symm, sp', by rw [e1], e2⟩
      · rw [if_neg hxy, hk, ← htk] at hst
        have hn2 : (x.add == y.add && x.del == y.del) = false := by
          cases h : (x.add == y.add && x.del == y.del)
          · rfl
          · simp at h; exact absurd (view_eq.2 h) hxy
        simp -implicitDefEqProofs [g0, g3, hlt, hlt', hw1, y2, y2', k1, u1, u2, u3, u4, eV, hn2, hwk]
        exact ⟨⟨k + 1, by simp [g0], by simp, by simp [k1, hc1], by omega, by omega, hst⟩, by omega⟩
    · have hlt' : ¬ (k : Int) < (d.size : Int) := by omega
      rw [List.take_of_length_le (by simp; omega)] at hk
      simp -implicitDefEqProofs [g0, g3, hlt, hlt']
      intro _
      exact ⟨by simp [g0], k1, hk⟩
  rintro t hh ⟨g0, k1, hk⟩
  rw [hk]
  simp -implicitDefEqProofs [g0]
  exact ⟨one b1 (memV d sp), SubH_one.2 (by simp [k1, Weak.refl]), sp, by rw [hm0], rfl⟩
end Go.Proofs.YtjbbfiagijjdoaaGreat

/- Contracts: the state behind records. No condition. -/
set_option linter.unusedSimpArgs false
set_option linter.unusedVariables false
set_option maxRecDepth 10000
namespace Go.Proofs.YtjbbfiagijjdoaaGreat
open Go Go.Rw Go.Proofs
-- a goal is never to be run by the elaborator
attribute [local irreducible] awp aops aop aopsE aeff

def FoI (v : PView) (l : List PRec) (b2 b3 : Nat) (t : Nat → AV) (h : Nat → Option (List AV)) : Prop := ∃ k : Nat, t 4 = .ptr b2 0 ∧ t 5 = .ptr b3 0 ∧ t 10 = .sl .no (eRs l) ∧ t 11 = eI l.length ∧ t 12 = eI k ∧ k ≤ l.length ∧ (∃ z, h b2 = some z ∧ z.length = 7) ∧ h b3 = some (eSt (foldS v (l.take k)))
def FoM (v : PView) (l : List PRec) (b2 b3 : Nat) (t : Nat → AV) (h : Nat → Option (List AV)) : Prop := t 4 = .ptr b2 0 ∧ t 5 = .ptr b3 0 ∧ (∃ z, h b2 = some z ∧ z.length = 7) ∧ h b3 = some (eSt (foldS v l))
theorem fold_spec (v : PView) (l : List PRec) (hv : rightV v = true) (hl : ∀ r ∈ l, rightR r = true) (hn : l.length ≤ 100000) : ASpec Tryz.prog 20 [.agg (eV v), .sl .no (eRs l)] (· = .agg (eSt (foldS v l))) := by
  refine ASpec.of_awp Tryz.func20 (by kernel_rfl) rfl (by rw [Tryz.results20]) Tryz.ntmps20 ?_
  simp -implicitDefEqProofs [eV]
  refine allocK.intro (fun b1 hb1 => ?_)
  simp -implicitDefEqProofs
  refine allocK.intro (fun b2 hb2 => ?_)
  have n12 : ¬ b1 = b2 := by rintro rfl; simp at hb2
  have n21 : ¬ b2 = b1 := fun h => n12 h.symm
  simp -implicitDefEqProofs [n12, n21]
  refine CallK.with (new_spec v) (by simp [eV]) ?_
  simp -implicitDefEqProofs [eSt]
  refine allocK.intro (fun b3 hb3 => ?_)
  have n13 : ¬ b1 = b3 := by rintro rfl; simp [n12] at hb3
  have n31 : ¬ b3 = b1 := fun h => n13 h.symm
  have n23 : ¬ b2 = b3 := by rintro rfl; simp at hb3
  have n32 : ¬ b3 = b2 := fun h => n23 h.symm
  simp -implicitDefEqProofs [n12, n21, n13, n31, n23, n32]
  intro _
  refine loopK.post (FoI v l b2 b3) (fun t => l.length - natOf (t 12)) (FoM v l b2 b3) ?_ ?_ ?_
  · exact ⟨0, by simp, by simp, by simp, by simp, by simp, by omega, ⟨[.sl .nil [], .sl .nil [], .sl .nil [], eI 0, eI 0, eI 0, eI 0], by simp [n23, n21], rfl⟩, by simp [foldS, newS, eSt]⟩
  · rintro t hh ⟨k, g4, g5, g10, g11, g12, hk, ⟨z, kz, hz⟩, k3⟩
    by_cases hlt : k < l.length
    · have hlt' : (k : Int) < (l.length : Int) := by omega
      obtain ⟨r, hx⟩ : ∃ r, l[k]? = some r := ⟨l[k], by simp [hlt]⟩
      have hw : IntKind.i64.wrap ((k : Int) + 1) = ((k + 1 : Nat) : Int) := by rw [w64 (by omega) (by omega)]; omega
      have hok := okN_fold hv hl k hk
      have hr := hl r (List.mem_of_getElem? hx)
      have hst := foldS_step (v := v) hx
      generalize foldS v (l.take k) = s at *
      have hap := apply_spec s r (hok.ok (by omega)) (right_cell hr).1 (hok.news hr)
      generalize applyS s r = s2 at *
      simp -implicitDefEqProofs [g10, g11, g12, hlt', hx, eRc]
      refine allocK.intro (fun b4 hb4 => ?_)
      have n24 : ¬ b2 = b4 := by rintro rfl; rw [kz] at hb4; simp at hb4
      have n42 : ¬ b4 = b2 := fun h => n24 h.symm
      have n34 : ¬ b3 = b4 := by rintro rfl; rw [k3] at hb4; simp at hb4
      have n43 : ¬ b4 = b3 := fun h => n34 h.symm
      rw [eSt] at k3
      simp -implicitDefEqProofs [g5, k3, n23, n32, n24, n42, n34, n43]
      refine CallK.with hap (by simp [eSt, eRc]) ?_
      simp -implicitDefEqProofs [g5, k3, n23, n32, n24, n42, n34, n43, g12, hw, eSt]
      exact ⟨⟨k + 1, by simp [g4], by simp [g5], by simp [g10], by simp [g11], by simp, by omega, ⟨z, by simp [n23, n24, kz], hz⟩, by rw [hst]; simp [eSt]⟩, by omega⟩
    · have hlt' : ¬ (k : Int) < (l.length : Int) := by omega
      rw [List.take_of_length_le (by omega)] at k3
      simp -implicitDefEqProofs [g11, g12, hlt']
      exact ⟨by simp [g4], by simp [g5], ⟨z, kz, hz⟩, k3⟩
  rintro t hh ⟨g4, g5, ⟨z, kz, hz⟩, k3⟩
  generalize foldS v l = s at *
  rw [eSt] at k3
  simp -implicitDefEqProofs [g4, g5, kz, k3, hz, n23, n32, eSt]
end Go.Proofs.YtjbbfiagijjdoaaGreat

/- Contracts: lists of what is told of views (api.ViewBook) that are the same. Printed by sort/gen.py. No condition. -/
set_option linter.unusedSimpArgs false
set_option linter.unusedVariables false
set_option maxRecDepth 10000
namespace Go.Proofs.YtjbbfiagijjdoaaGreat
open Go Go.Rw Go.Proofs
-- a goal is never to be run by the elaborator
attribute [local irreducible] awp aops aop aopsE aeff

def sameVB (x y : PVB) : Bool := decide (x.view = y.view) && sameEs x.book y.book
def sameVBs : List PVB → List PVB → Bool
  | [], [] => true
  | x :: l, y :: m => sameVB x y && sameVBs l m
  | _, _ => false
theorem sameVBs_len : ∀ {a b : List PVB}, a.length ≠ b.length → sameVBs a b = false
  | [], [], h => absurd rfl h
  | [], _ :: _, _ => rfl
  | _ :: _, [], _ => rfl
  | x :: a, y :: b, h => by
    have := sameVBs_len (a := a) (b := b) (by simp at h; exact h)
    simp [sameVBs, this]
def EqVBI (a b : List PVB) (t : Nat → AV) (_ : Nat → Option (List AV)) : Prop := ∃ k : Nat, t 15 = .sl .no (rowsVB a) ∧ t 1 = .sl .no (rowsVB b) ∧ t 2 = .fn 122 [] ∧ t 16 = .v (.int .i64 a.length) ∧ t 17 = .v (.int .i64 k) ∧ k ≤ a.length ∧ sameVBs (a.drop k) (b.drop k) = sameVBs a b
end Go.Proofs.YtjbbfiagijjdoaaGreat

/- Contracts: lists of what is told of views (api.ViewCells) that are the same. Printed by sort/gen.py. No condition. -/
set_option linter.unusedSimpArgs false
set_option linter.unusedVariables false
set_option maxRecDepth 10000
namespace Go.Proofs.YtjbbfiagijjdoaaGreat
open Go Go.Rw Go.Proofs
-- a goal is never to be run by the elaborator
attribute [local irreducible] awp aops aop aopsE aeff

def sameVC (x y : PVC) : Bool := decide (x.view = y.view) && decide (x.cells = y.cells)
def sameVCs : List PVC → List PVC → Bool
  | [], [] => true
  | x :: l, y :: m => sameVC x y && sameVCs l m
  | _, _ => false
theorem sameVCs_len : ∀ {a b : List PVC}, a.length ≠ b.length → sameVCs a b = false
  | [], [], h => absurd rfl h
  | [], _ :: _, _ => rfl
  | _ :: _, [], _ => rfl
  | x :: a, y :: b, h => by
    have := sameVCs_len (a := a) (b := b) (by simp at h; exact h)
    simp [sameVCs, this]
def EqVCI (a b : List PVC) (t : Nat → AV) (_ : Nat → Option (List AV)) : Prop := ∃ k : Nat, t 15 = .sl .no (rowsVC a) ∧ t 1 = .sl .no (rowsVC b) ∧ t 2 = .fn 124 [] ∧ t 16 = .v (.int .i64 a.length) ∧ t 17 = .v (.int .i64 k) ∧ k ≤ a.length ∧ sameVCs (a.drop k) (b.drop k) = sameVCs a b
end Go.Proofs.YtjbbfiagijjdoaaGreat

/- Contracts: are two states the same? No condition. -/
set_option linter.unusedSimpArgs false
set_option linter.unusedVariables false
set_option maxRecDepth 10000
namespace Go.Proofs.YtjbbfiagijjdoaaGreat
open Go Go.Rw Go.Proofs
-- a goal is never to be run by the elaborator
attribute [local irreducible] awp aops aop aopsE aeff

def EqiI (a b : List PVI) (t : Nat → AV) (_ : Nat → Option (List AV)) : Prop := ∃ k : Nat, t 0 = .sl .no (rowsVI a) ∧ t 1 = .sl .no (rowsVI b) ∧ t 12 = .v (.int .i64 a.length) ∧ t 13 = .v (.int .i64 k) ∧ k ≤ a.length ∧ a.take k = b.take k
theorem viEq {x y : PVI} : x = y ↔ x.view.add = y.view.add ∧ x.view.del = y.view.del ∧ x.change.add = y.change.add ∧ x.change.del = y.change.del := by
  obtain ⟨⟨a1, d1⟩, ⟨c1, e1⟩⟩ := x
  obtain ⟨⟨a2, d2⟩, ⟨c2, e2⟩⟩ := y
  simp [and_assoc]
instance : DecidableEq PVI := fun x y => decidable_of_iff _ viEq.symm
/-- the same state -/
def sameSt (a b : PState) : Bool := sameVBs a.books b.books && (sameVCs a.cells b.cells && (decide (a.intents = b.intents) && (decide (a.held = b.held) && (decide (a.inc = b.inc) && decide (a.last = b.last)))))
theorem sameVBs_self (l : List PVB) : sameVBs l l = true := by
  induction l with
  | nil => rfl
  | cons x l ih => simp [sameVBs, sameVB, samesE, ih]
theorem sameVCs_self (l : List PVC) : sameVCs l l = true := by
  induction l with
  | nil => rfl
  | cons x l ih => simp [sameVCs, sameVC, ih]
theorem sameSt_self (s : PState) : sameSt s s = true := by
  unfold sameSt
  rw [sameVBs_self, sameVCs_self]
  simp
end Go.Proofs.YtjbbfiagijjdoaaGreat

/- Contracts: the views of which something is known. No condition. Printed by sort/v8.py. -/
set_option linter.unusedSimpArgs false
set_option linter.unusedVariables false
set_option maxRecDepth 10000
namespace Go.Proofs.YtjbbfiagijjdoaaGreat
open Go Go.Rw Go.Proofs
-- a goal is never to be run by the elaborator
attribute [local irreducible] awp aops aop aopsE aeff

def allV (s : PState) : List PView := [s.held] ++ s.books.map (·.view) ++ s.cells.map (·.view) ++ s.intents.map (·.view)
def SnI (s : PState) (b1 ts tl ti : Nat) (rows : List (List AV)) (vs pre : List PView) (t : Nat → AV) (h : Nat → Option (List AV)) : Prop := ∃ (k b c : Nat) (sp : List AV), t 1 = .ptr b1 0 ∧ h b1 = some (eSt s) ∧ t ts = .sl .no rows ∧ t tl = eI vs.length ∧ t ti = eI k ∧ k ≤ vs.length ∧ t 3 = .sm b 0 (pre.length + k) c ∧ h b = some ((eVs (pre ++ vs.take k)).flatten ++ sp) ∧ (pre.length + k) * 2 + sp.length = c * 2
def SnM (s : PState) (b1 : Nat) (pre : List PView) (t : Nat → AV) (h : Nat → Option (List AV)) : Prop := ∃ (b c : Nat) (sp : List AV), t 1 = .ptr b1 0 ∧ h b1 = some (eSt s) ∧ t 3 = .sm b 0 pre.length c ∧ h b = some ((eVs pre).flatten ++ sp) ∧ pre.length * 2 + sp.length = c * 2
/-- strictly sorted, and just these -/
def SeenOf (s : PState) (out : List PView) : Prop := out.Pairwise (fun a b => lessV a b = true) ∧ ∀ x, x ∈ out ↔ x ∈ allV s
theorem ltV_cm (a b : PView) : ltV cmV a b = lessV a b := by
  unfold ltV cmV
  cases lessV a b
  · by_cases h : a = b <;> simp [h]
  · simp
theorem swoV : Go.Sort.SWO (ltV cmV) where
  irrefl x := by rw [ltV_cm, lessV_eq]; simp
  trans x y z h1 h2 := by
    simp only [ltV_cm, lessV_eq] at *
    split at h1 <;> split at h2 <;> split <;> simp at * <;> omega
  ntrans x y z h1 h2 := by
    simp only [ltV_cm, lessV_eq] at *
    split at h1 <;> split at h2 <;> split <;> simp at * <;> omega
theorem less_total {a b : PView} (ha : rightV a = true) (hb : rightV b = true) (h1 : lessV a b = false) (h2 : lessV b a = false) : a = b := by
  simp only [lessV_eq] at *
  refine name_inj ha hb ?_
  split at h1 <;> split at h2 <;> simp at * <;> omega
theorem less_irr (a : PView) : lessV a a = false := by rw [lessV_eq]; simp
/-- of a sorted list what is left is strictly sorted, and the same are in it -/
theorem dedA_sorted {l : List PView} (hr : ∀ x ∈ l, rightV x = true) (hs : l.Pairwise fun a b => lessV b a = false) : (dedA l).Pairwise (fun a b => lessV a b = true) ∧ ∀ x, x ∈ dedA l ↔ x ∈ l := by
  revert hr hs
  refine snoc_ind (P := fun l => (∀ x ∈ l, rightV x = true) → (l.Pairwise fun a b => lessV b a = false) → (dedA l).Pairwise (fun a b => lessV a b = true) ∧ ∀ x, x ∈ dedA l ↔ x ∈ l) (fun _ _ => ⟨List.Pairwise.nil, fun x => Iff.rfl⟩) (fun l y ih => ?_) l
  intro hr hs
  rw [List.pairwise_append] at hs
  obtain ⟨hs1, -, hs3⟩ := hs
  obtain ⟨i1, i2⟩ := ih (fun x hx => hr x (List.mem_append_left _ hx)) hs1
  rw [dedA_snoc, dedF]
  have hy : ∀ x ∈ l, lessV y x = false := fun x hx => hs3 x hx y (by simp)
  split
  · rename_i hl
    refine ⟨i1, fun x => ?_⟩
    rw [i2, List.mem_append]
    have : y ∈ l := by rw [← i2]; exact List.mem_of_getLast? hl
    constructor
    · exact Or.inl
    · rintro (h | h)
      · exact h
      · simp at h; rw [h]; exact this
  · rename_i hl
    refine ⟨?_, fun x => ?_⟩
    · rw [List.pairwise_append]
      refine ⟨i1, List.pairwise_singleton _ _, fun x hx z hz => ?_⟩
      simp at hz; subst hz
      have hxl := (i2 x).1 hx
      cases hc : lessV x z
      · exfalso
        have hxz : x = z := less_total (hr x (List.mem_append_left _ hxl)) (hr z (by simp)) hc (hy x hxl)
        subst hxz
        -- x stands in dedA l, all of which is not behind the last one
        rw [dedA_last] at hl
        have hlne : ¬ l = [] := fun h => by subst h; simp at hxl
        obtain ⟨w, hw⟩ : ∃ w, l.getLast? = some w := by
          cases h : l.getLast? with
          | none => rw [List.getLast?_eq_none_iff] at h; exact absurd h hlne
          | some w => exact ⟨w, rfl⟩
        obtain ⟨l0, rfl⟩ : ∃ l0, l = l0 ++ [w] := by
          refine ⟨l.dropLast, ?_⟩
          rw [List.getLast?_eq_some_iff] at hw
          obtain ⟨l1, rfl⟩ := hw
          simp
        rw [hw] at hl
        have hwx : ¬ w = x := fun h => hl (by rw [h])
        have hxl0 : x ∈ l0 := by
          rcases List.mem_append.1 hxl with h | h
          · exact h
          · simp at h; exact absurd h.symm hwx
        rw [List.pairwise_append] at hs1
        have h1 := hs1.2.2 x hxl0 w (by simp)
        have h2 := hy w (by simp)
        exact hwx (less_total (hr w (by simp)) (hr x (by simp)) h1 h2)
      · rfl
    · rw [List.mem_append, List.mem_append, i2]
theorem perm_list {d R : Array PView} (h : Go.Sort.PermIn 0 d.size d R) : R.toList.Perm d.toList := by
  obtain ⟨h1, -, h3⟩ := h
  have e1 : R.extract 0 d.size = R := by rw [← h1]; exact Array.extract_size
  rw [e1, Array.extract_size] at h3
  exact h3
theorem sorted_list {R : Array PView} (h : Go.Sort.SortedIn (ltV cmV) 0 R.size R) : R.toList.Pairwise fun a b => lessV b a = false := by
  rw [List.pairwise_iff_getElem]
  intro i j hi hj hij
  have := h i j (Nat.zero_le _) hij (by simpa using hj)
  rw [ltV_cm, getElem!_pos R j (by simpa using hj), getElem!_pos R i (by simpa using hi)] at this
  simpa using this
theorem seen_unique {s : PState} {a b : List PView} (ha : SeenOf s a) (hb : SeenOf s b) : a = b := by
  obtain ⟨a1, a2⟩ := ha
  obtain ⟨b1, b2⟩ := hb
  have anti : ∀ {x y : PView}, lessV x y = true → lessV y x = true → False := fun {x y} h1 h2 => by
    have h := swoV.trans x y x (by rw [ltV_cm]; exact h1) (by rw [ltV_cm]; exact h2)
    rw [swoV.irrefl] at h; cases h
  have nd : ∀ {l : List PView}, l.Pairwise (fun a b => lessV a b = true) → l.Nodup := fun {l} h => h.imp fun {x y} h2 e => by subst e; rw [less_irr] at h2; cases h2
  have hp : a.Perm b := (List.perm_ext_iff_of_nodup (nd a1) (nd b1)).2 fun x => (a2 x).trans (b2 x).symm
  exact hp.eq_of_pairwise (le := fun a b => lessV a b = true) (fun x y _ _ h1 h2 => (anti h1 h2).elim) a1 b1
theorem seen_spec (s : PState) (hr : ∀ x ∈ allV s, rightV x = true) (hl : (allV s).length ≤ 1000000) : ASpec Tryz.prog 34 [.agg (eSt s)] (fun r => ∃ tag out, r = .sl tag (eVs out) ∧ SeenOf s out) := by
  refine ASpec.of_awpS Tryz.func34 (by kernel_rfl) rfl (by rw [Tryz.results34]) Tryz.ntmps34 ?_
  have hl2 : 1 + s.books.length + s.cells.length + s.intents.length ≤ 1000000 := by simp [allV] at hl; omega
  simp -implicitDefEqProofs [eSt]
  refine allocK.intro (fun b1 hb1 => ?_)
  simp -implicitDefEqProofs
  refine bsK.own (by simp) (fun b c spare hb hc hsp => ?_) (by omega)
  have nb : ¬ b1 = b := by rintro rfl; simp at hb
  have nb' : ¬ b = b1 := fun h => nb h.symm
  obtain ⟨pre, hp⟩ : ∃ pre, pre = [s.held] := ⟨_, rfl⟩
  obtain ⟨p0, hp1⟩ : ∃ p0, pre.head?.map (·.add) = some p0 := ⟨s.held.add, by rw [hp]; rfl⟩
  have hpl : pre.length = 1 := by rw [hp]; rfl
  simp -implicitDefEqProofs [nb, nb']
  intro _
  refine loopK.post (SnI s b1 14 15 16 (rowsVB s.books) (s.books.map (·.view)) pre) (fun t => s.books.length - natOf (t 16)) (SnM s b1 (pre ++ s.books.map (·.view))) ?_ ?_ ?_
  · exact ⟨0, b, c, spare.map AV.v, by simp, by simp [nb, nb', eSt], by simp [rowsVB], by simp, by simp, by omega, by simp [hp], by simp [nb, nb', eVs, eV, hp], by simp [hp] at hsp ⊢; omega⟩
  · clear hb hc hsp nb nb'
    rintro t hh ⟨k, b, c, sp, g1, e1, gs, gl, gi, hk, g3, k1, hsp⟩
    rw [List.length_map] at gl hk
    by_cases hlt : k < s.books.length
    · have hlt' : (k : Int) < (s.books.length : Int) := by omega
      obtain ⟨x, hx⟩ : ∃ x, s.books[k]? = some x := ⟨s.books[k], by simp [hlt]⟩
      have hw : IntKind.i64.wrap ((k : Int) + 1) = ((k + 1 : Nat) : Int) := by rw [w64 (by omega) (by omega)] <;> omega
      have htk1 : (s.books.map (·.view)).take (k + 1) = (s.books.map (·.view)).take k ++ [x.view] := by rw [List.take_add_one, List.getElem?_map, hx]; rfl
      have hcl0 : (pre ++ (s.books.map (·.view)).take k).length = pre.length + k := by simp; omega
      have hne0 : (eVs (pre ++ (s.books.map (·.view)).take k)).flatten.head? = some (eI p0) := by
        cases hpc : pre with
        | nil => rw [hpc] at hp1; cases hp1
        | cons y l => rw [hpc] at hp1; simp at hp1; subst hp1; simp [eVs, eV]
      have hnext : pre ++ (s.books.map (·.view)).take (k + 1) = pre ++ (s.books.map (·.view)).take k ++ [x.view] := by rw [htk1, ← List.append_assoc]
      clear htk1
      generalize pre ++ (s.books.map (·.view)).take k = cur at *
      have nb : ¬ b1 = b := by
        rintro rfl; rw [e1] at k1
        have := congrArg (fun o => o.map (fun l => l.head?)) k1
        have h2 : ((eVs cur).flatten ++ sp).head? = some (eI p0) := by
          cases hz : (eVs cur).flatten with
          | nil => rw [hz] at hne0; cases hne0
          | cons y l => rw [hz] at hne0; simpa using hne0
        simp [eSt] at this
        rw [← List.head?_append, h2] at this
        simp at this
      have nb' : ¬ b = b1 := fun h => nb h.symm
      have htk : (((eVs cur).flatten ++ sp).take ((pre.length + k) * 2)).map dead1 = (eVs cur).flatten := by
        rw [← hcl0, ← eVs_flat, List.take_left, eVs_dead]
      have hcl : ((eVs cur).flatten ++ sp).length = c * 2 := by rw [List.length_append, eVs_flat, hcl0]; exact hsp
      generalize hA : (eVs cur).flatten ++ sp = A at *
      generalize hm : pre.length + k = m at *
      simp -implicitDefEqProofs [gs, gl, gi, hlt', hx, eVB]
      refine allocK.intro (fun b2 hb2 => ?_)
      have n1 : ¬ b2 = b := by rintro rfl; rw [k1] at hb2; simp at hb2
      have n2 : ¬ b = b2 := fun h => n1 h.symm
      have n3 : ¬ b2 = b1 := by rintro rfl; rw [e1] at hb2; simp at hb2
      have n4 : ¬ b1 = b2 := fun h => n3 h.symm
      simp -implicitDefEqProofs [g3, k1, n1, n2, n3, n4, hcl]
      refine ⟨by omega, growSmK.intro fun b' c' spare hb' hc' hsp' => ?_⟩
      have n5 : ¬ b' = b1 := by
        rintro rfl
        rcases hb' with h | h
        · exact nb h
        · simp [n3, n4, e1] at h
      have n6 : ¬ b1 = b' := fun h => n5 h.symm
      have hfin : (A.take (m * 2)).map dead1 ++ [AV.v (.int .i64 x.view.add), AV.v (.int .i64 x.view.del)] ++ spare = (eVs (cur ++ [x.view])).flatten ++ spare := by
        rw [htk]; simp [eVs, eV]
      simp -implicitDefEqProofs [gi, hw]
      exact ⟨⟨k + 1, b', c', spare, by simp [g1], by simp [n3, n4, n5, n6, nb, nb', e1], by simp [gs], by simp [gl], by simp, by simp; omega, by simp; omega, by rw [hnext]; simp [eVs, eV] at hfin ⊢; exact hfin, by simp at hsp'; omega⟩, by omega⟩
    · have hlt' : ¬ (k : Int) < (s.books.length : Int) := by omega
      rw [List.take_of_length_le (by simp; omega)] at k1
      obtain rfl : k = s.books.length := by omega
      simp -implicitDefEqProofs [gl, gi, hlt']
      exact ⟨b, c, sp, by simp [g1], e1, by simp [g3], k1, by simpa using hsp⟩
  clear hb hc hsp nb nb'
  rintro t hh ⟨b, c, sp, g1, e1, g3, k1, hsp⟩
  obtain ⟨preB, hpB⟩ : ∃ preB, preB = pre ++ s.books.map (·.view) := ⟨_, rfl⟩
  have hp1B : preB.head?.map (·.add) = some p0 := by rw [hpB, hp]; rw [hp] at hp1; simpa using hp1
  have hplB : preB.length = 1 + s.books.length := by rw [hpB, hp]; simp; omega
  rw [← hpB] at g3 k1 hsp
  have e1' := e1
  rw [eSt] at e1'
  simp -implicitDefEqProofs [g1, e1']
  intro _
  refine loopK.post (SnI s b1 27 28 29 (rowsVC s.cells) (s.cells.map (·.view)) preB) (fun t => s.cells.length - natOf (t 29)) (SnM s b1 (preB ++ s.cells.map (·.view))) ?_ ?_ ?_
  · exact ⟨0, b, c, sp, by simp [g1], by simp [e1], by simp [rowsVC], by simp, by simp, by omega, by simp [g3], by simpa using k1, by simpa using hsp⟩
  · clear g1 e1 g3 k1 hsp
    rintro t hh ⟨k, b, c, sp, g1, e1, gs, gl, gi, hk, g3, k1, hsp⟩
    rw [List.length_map] at gl hk
    by_cases hlt : k < s.cells.length
    · have hlt' : (k : Int) < (s.cells.length : Int) := by omega
      obtain ⟨x, hx⟩ : ∃ x, s.cells[k]? = some x := ⟨s.cells[k], by simp [hlt]⟩
      have hw : IntKind.i64.wrap ((k : Int) + 1) = ((k + 1 : Nat) : Int) := by rw [w64 (by omega) (by omega)] <;> omega
      have htk1 : (s.cells.map (·.view)).take (k + 1) = (s.cells.map (·.view)).take k ++ [x.view] := by rw [List.take_add_one, List.getElem?_map, hx]; rfl
      have hcl0 : (preB ++ (s.cells.map (·.view)).take k).length = preB.length + k := by simp; omega
      have hne0 : (eVs (preB ++ (s.cells.map (·.view)).take k)).flatten.head? = some (eI p0) := by
        cases hpc : preB with
        | nil => rw [hpc] at hp1B; cases hp1B
        | cons y l => rw [hpc] at hp1B; simp at hp1B; subst hp1B; simp [eVs, eV]
      have hnext : preB ++ (s.cells.map (·.view)).take (k + 1) = preB ++ (s.cells.map (·.view)).take k ++ [x.view] := by rw [htk1, ← List.append_assoc]
      clear htk1
      generalize preB ++ (s.cells.map (·.view)).take k = cur at *
      have nb : ¬ b1 = b := by
        rintro rfl; rw [e1] at k1
        have := congrArg (fun o => o.map (fun l => l.head?)) k1
        have h2 : ((eVs cur).flatten ++ sp).head? = some (eI p0) := by
          cases hz : (eVs cur).flatten with
          | nil => rw [hz] at hne0; cases hne0
          | cons y l => rw [hz] at hne0; simpa using hne0
        simp [eSt] at this
        rw [← List.head?_append, h2] at this
        simp at this
      have nb' : ¬ b = b1 := fun h => nb h.symm
      have htk : (((eVs cur).flatten ++ sp).take ((preB.length + k) * 2)).map dead1 = (eVs cur).flatten := by
        rw [← hcl0, ← eVs_flat, List.take_left, eVs_dead]
      have hcl : ((eVs cur).flatten ++ sp).length = c * 2 := by rw [List.length_append, eVs_flat, hcl0]; exact hsp
      generalize hA : (eVs cur).flatten ++ sp = A at *
      generalize hm : preB.length + k = m at *
      simp -implicitDefEqProofs [gs, gl, gi, hlt', hx, eVC]
      refine allocK.intro (fun b2 hb2 => ?_)
      have n1 : ¬ b2 = b := by rintro rfl; rw [k1] at hb2; simp at hb2
      have n2 : ¬ b = b2 := fun h => n1 h.symm
      have n3 : ¬ b2 = b1 := by rintro rfl; rw [e1] at hb2; simp at hb2
      have n4 : ¬ b1 = b2 := fun h => n3 h.symm
      simp -implicitDefEqProofs [g3, k1, n1, n2, n3, n4, hcl]
      refine ⟨by omega, growSmK.intro fun b' c' spare hb' hc' hsp' => ?_⟩
      have n5 : ¬ b' = b1 := by
        rintro rfl
        rcases hb' with h | h
        · exact nb h
        · simp [n3, n4, e1] at h
      have n6 : ¬ b1 = b' := fun h => n5 h.symm
      have hfin : (A.take (m * 2)).map dead1 ++ [AV.v (.int .i64 x.view.add), AV.v (.int .i64 x.view.del)] ++ spare = (eVs (cur ++ [x.view])).flatten ++ spare := by
        rw [htk]; simp [eVs, eV]
      simp -implicitDefEqProofs [gi, hw]
      exact ⟨⟨k + 1, b', c', spare, by simp [g1], by simp [n3, n4, n5, n6, nb, nb', e1], by simp [gs], by simp [gl], by simp, by simp; omega, by simp; omega, by rw [hnext]; simp [eVs, eV] at hfin ⊢; exact hfin, by simp at hsp'; omega⟩, by omega⟩
    · have hlt' : ¬ (k : Int) < (s.cells.length : Int) := by omega
      rw [List.take_of_length_le (by simp; omega)] at k1
      obtain rfl : k = s.cells.length := by omega
      simp -implicitDefEqProofs [gl, gi, hlt']
      exact ⟨b, c, sp, by simp [g1], e1, by simp [g3], k1, by simpa using hsp⟩
  clear g1 e1 g3 k1 hsp
  rintro t hh ⟨b, c, sp, g1, e1, g3, k1, hsp⟩
  obtain ⟨preC, hpC⟩ : ∃ preC, preC = preB ++ s.cells.map (·.view) := ⟨_, rfl⟩
  have hp1C : preC.head?.map (·.add) = some p0 := by rw [hpC, hpB, hp]; rw [hp] at hp1; simpa using hp1
  have hplC : preC.length = 1 + s.books.length + s.cells.length := by rw [hpC, List.length_append, hplB, List.length_map]
  rw [← hpC] at g3 k1 hsp
  have e1' := e1
  rw [eSt] at e1'
  simp -implicitDefEqProofs [g1, e1']
  intro _
  refine loopK.post (SnI s b1 40 41 42 (rowsVI s.intents) (s.intents.map (·.view)) preC) (fun t => s.intents.length - natOf (t 42)) (SnM s b1 (preC ++ s.intents.map (·.view))) ?_ ?_ ?_
  · exact ⟨0, b, c, sp, by simp [g1], by simp [e1], by simp [rowsVI], by simp, by simp, by omega, by simp [g3], by simpa using k1, by simpa using hsp⟩
  · clear g1 e1 g3 k1 hsp
    rintro t hh ⟨k, b, c, sp, g1, e1, gs, gl, gi, hk, g3, k1, hsp⟩
    rw [List.length_map] at gl hk
    by_cases hlt : k < s.intents.length
    · have hlt' : (k : Int) < (s.intents.length : Int) := by omega
      obtain ⟨x, hx⟩ : ∃ x, s.intents[k]? = some x := ⟨s.intents[k], by simp [hlt]⟩
      have hw : IntKind.i64.wrap ((k : Int) + 1) = ((k + 1 : Nat) : Int) := by rw [w64 (by omega) (by omega)] <;> omega
      have htk1 : (s.intents.map (·.view)).take (k + 1) = (s.intents.map (·.view)).take k ++ [x.view] := by rw [List.take_add_one, List.getElem?_map, hx]; rfl
      have hcl0 : (preC ++ (s.intents.map (·.view)).take k).length = preC.length + k := by simp; omega
      have hne0 : (eVs (preC ++ (s.intents.map (·.view)).take k)).flatten.head? = some (eI p0) := by
        cases hpc : preC with
        | nil => rw [hpc] at hp1C; cases hp1C
        | cons y l => rw [hpc] at hp1C; simp at hp1C; subst hp1C; simp [eVs, eV]
      have hnext : preC ++ (s.intents.map (·.view)).take (k + 1) = preC ++ (s.intents.map (·.view)).take k ++ [x.view] := by rw [htk1, ← List.append_assoc]
      clear htk1
      generalize preC ++ (s.intents.map (·.view)).take k = cur at *
      have nb : ¬ b1 = b := by
        rintro rfl; rw [e1] at k1
        have := congrArg (fun o => o.map (fun l => l.head?)) k1
        have h2 : ((eVs cur).flatten ++ sp).head? = some (eI p0) := by
          cases hz : (eVs cur).flatten with
          | nil => rw [hz] at hne0; cases hne0
          | cons y l => rw [hz] at hne0; simpa using hne0
        simp [eSt] at this
        rw [← List.head?_append, h2] at this
        simp at this
      have nb' : ¬ b = b1 := fun h => nb h.symm
      have htk : (((eVs cur).flatten ++ sp).take ((preC.length + k) * 2)).map dead1 = (eVs cur).flatten := by
        rw [← hcl0, ← eVs_flat, List.take_left, eVs_dead]
      have hcl : ((eVs cur).flatten ++ sp).length = c * 2 := by rw [List.length_append, eVs_flat, hcl0]; exact hsp
      generalize hA : (eVs cur).flatten ++ sp = A at *
      generalize hm : preC.length + k = m at *
      simp -implicitDefEqProofs [gs, gl, gi, hlt', hx, eVI]
      refine allocK.intro (fun b2 hb2 => ?_)
      have n1 : ¬ b2 = b := by rintro rfl; rw [k1] at hb2; simp at hb2
      have n2 : ¬ b = b2 := fun h => n1 h.symm
      have n3 : ¬ b2 = b1 := by rintro rfl; rw [e1] at hb2; simp at hb2
      have n4 : ¬ b1 = b2 := fun h => n3 h.symm
      simp -implicitDefEqProofs [g3, k1, n1, n2, n3, n4, hcl]
      refine ⟨by omega, growSmK.intro fun b' c' spare hb' hc' hsp' => ?_⟩
      have n5 : ¬ b' = b1 := by
        rintro rfl
        rcases hb' with h | h
        · exact nb h
        · simp [n3, n4, e1] at h
      have n6 : ¬ b1 = b' := fun h => n5 h.symm
      have hfin : (A.take (m * 2)).map dead1 ++ [AV.v (.int .i64 x.view.add), AV.v (.int .i64 x.view.del)] ++ spare = (eVs (cur ++ [x.view])).flatten ++ spare := by
        rw [htk]; simp [eVs, eV]
      simp -implicitDefEqProofs [gi, hw]
      exact ⟨⟨k + 1, b', c', spare, by simp [g1], by simp [n3, n4, n5, n6, nb, nb', e1], by simp [gs], by simp [gl], by simp, by simp; omega, by simp; omega, by rw [hnext]; simp [eVs, eV] at hfin ⊢; exact hfin, by simp at hsp'; omega⟩, by omega⟩
    · have hlt' : ¬ (k : Int) < (s.intents.length : Int) := by omega
      rw [List.take_of_length_le (by simp; omega)] at k1
      obtain rfl : k = s.intents.length := by omega
      simp -implicitDefEqProofs [gl, gi, hlt']
      exact ⟨b, c, sp, by simp [g1], e1, by simp [g3], k1, by simpa using hsp⟩
  clear g1 e1 g3 k1 hsp
  rintro t hh ⟨b, c, sp, g1, e1, g3, k1, hsp⟩
  have hall : preC ++ s.intents.map (·.view) = allV s := by rw [hpC, hpB, hp]; rfl
  rw [hall] at g3 k1 hsp
  clear hp1 hp1B hp1C hplB hplC hall hpC hpB hp hpl
  obtain ⟨d, hd⟩ : ∃ d, d = (allV s).toArray := ⟨_, rfl⟩
  have hds : d.size = (allV s).length := by rw [hd]; simp
  have hdl : d.toList = allV s := by rw [hd]
  have hm : (eVs (allV s)).flatten ++ sp = memV d sp := by rw [hd]; rfl
  have hq : ∀ k < d.size, rightV d[k]! = true := fun k hk => by
    rw [getElem!_pos d k hk]
    exact hr _ (by rw [← hdl]; exact Array.getElem_mem_toList hk)
  rw [hm] at k1
  rw [← hds] at g3 hsp
  have hsort := sortV cmV (fun x => rightV x = true) 83 (fun x y hx hy => seenKey_spec x y hx hy) swoV sp b c d hq (by omega)
  simp -implicitDefEqProofs [g3]
  refine CallK.mh hsort (by simp) (SubH_one.2 (by simp [k1, Weak.refl])) ?_
  rintro r h' H ⟨R, rfl, hP, hS⟩ - hH -
  have k2 := hH b _ (one_self _ _)
  have hRs := hP.1
  have hperm := perm_list hP
  rw [← hRs] at hS
  have hsorted := sorted_list hS
  obtain ⟨o1, o2⟩ := dedA_sorted (fun x hx => hr x (by rw [← hdl]; exact hperm.mem_iff.1 hx)) hsorted
  have hcomp := compactV R sp b c (by omega) (by omega)
  rw [hRs] at hcomp
  simp -implicitDefEqProofs [g3]
  refine CallK.mh hcomp (by simp) (SubH_one.2 (by simp [k2, Weak.refl])) ?_
  rintro r h' H2 ⟨sp', rfl, rfl, hlen⟩ - hH -
  have k3 := hH b _ (one_self _ _)
  have hseen : SeenOf s (dedA R.toList) := ⟨o1, fun x => by rw [o2, hperm.mem_iff, hdl]⟩
  generalize dedA R.toList = out at *
  simp -implicitDefEqProofs
  refine shiftK.freeze (b := b) (len := out.length) (cap := c) 2 24 (eVs out) (by simp) k3 (chunks_views _ _) (by simp) ?_ ?_
  · rw [List.length_append, eVs_flat, hlen]; exact hsp
  simp -implicitDefEqProofs
  exact ⟨_, out, ⟨rfl, rfl⟩, hseen⟩
end Go.Proofs.YtjbbfiagijjdoaaGreat

/- Contracts: all views of records, each once, by their names. No condition. -/
set_option linter.unusedSimpArgs false
set_option linter.unusedVariables false
set_option maxRecDepth 10000
namespace Go.Proofs.YtjbbfiagijjdoaaGreat
open Go Go.Rw Go.Proofs
-- a goal is never to be run by the elaborator
attribute [local irreducible] awp aops aop aopsE aeff

def relR (r : PRec) : Bool := decide (r.kind = 1 ∨ r.kind = 2 ∨ r.kind = 5)
def presL (l : List PRec) (n : Nat) : Bool := l.any fun r => relR r && decide (nameV r.view = (n : Int))
def viewsTo (l : List PRec) (m : Nat) : List PView := ((List.range m).filter (presL l)).map fun (n : Nat) => viewN (n : Int)
def bestF (m : Int) (b : Int) (r : PRec) : Int := if relR r = true ∧ m < nameV r.view ∧ nameV r.view < b then nameV r.view else b
def bestL (l : List PRec) (m b : Int) : Int := l.foldl (bestF m) b
theorem bestL_spec : ∀ (l : List PRec) (m b : Int), (bestL l m b = b ∨ ∃ r ∈ l, relR r = true ∧ nameV r.view = bestL l m b ∧ m < bestL l m b) ∧ bestL l m b ≤ b ∧ ∀ r ∈ l, relR r = true → m < nameV r.view → bestL l m b ≤ nameV r.view
  | [], m, b => ⟨.inl rfl, Int.le_refl _, fun r hr => by simp at hr⟩
  | r :: l, m, b => by
    obtain ⟨h1, h2, h3⟩ := bestL_spec l m (bestF m b r)
    have e : bestL (r :: l) m b = bestL l m (bestF m b r) := rfl
    rw [e]
    generalize bestL l m (bestF m b r) = x at *
    unfold bestF at *
    by_cases h : relR r = true ∧ m < nameV r.view ∧ nameV r.view < b
    · simp only [h, and_self, if_true] at h1 h2
      refine ⟨.inr ?_, by omega, fun r' hr' hrel hm => ?_⟩
      · rcases h1 with h1 | ⟨r', hr', h4, h5, h6⟩
        · exact ⟨r, by simp, h.1, by omega, by omega⟩
        · exact ⟨r', by simp [hr'], h4, h5, h6⟩
      · rcases List.mem_cons.1 hr' with rfl | hr'
        · omega
        · exact h3 r' hr' hrel hm
    · rw [if_neg h] at h1 h2
      refine ⟨?_, h2, fun r' hr' hrel hm => ?_⟩
      · rcases h1 with h1 | ⟨r', hr', h4, h5, h6⟩
        · exact .inl h1
        · exact .inr ⟨r', by simp [hr'], h4, h5, h6⟩
      · rcases List.mem_cons.1 hr' with rfl | hr'
        · have : ¬ nameV r'.view < b := fun h5 => h ⟨hrel, hm, h5⟩
          omega
        · exact h3 r' hr' hrel hm
theorem bestL_step {l : List PRec} {k : Nat} {r : PRec} {m : Int} (h : l[k]? = some r) : bestL (l.take (k + 1)) m 5000 = bestF m (bestL (l.take k) m 5000) r := by
  unfold bestL
  rw [List.take_add_one, h, List.foldl_append]; rfl
theorem viewsTo_succ (l : List PRec) (m : Nat) : viewsTo l (m + 1) = viewsTo l m ++ (if presL l m = true then [viewN (m : Int)] else []) := by
  unfold viewsTo
  rw [List.range_succ, List.filter_append, List.map_append]
  cases h : presL l m <;> simp [h]
theorem viewsTo_skip {l : List PRec} {m k : Nat} (hk : m ≤ k) (h : ∀ n, m ≤ n → n < k → presL l n = false) : viewsTo l k = viewsTo l m := by
  induction k with
  | zero => obtain rfl : m = 0 := by omega
            rfl
  | succ k ih =>
    by_cases hm : m = k + 1
    · rw [hm]
    · rw [viewsTo_succ, h k (by omega) (by omega), ih (by omega) (fun n h1 h2 => h n h1 (by omega))]
      simp
theorem presL_iff {l : List PRec} {n : Nat} : presL l n = true ↔ ∃ r ∈ l, relR r = true ∧ nameV r.view = (n : Int) := by
  unfold presL
  rw [List.any_eq_true]
  simp only [Bool.and_eq_true, decide_eq_true_eq]
/-- the least name that comes next -/
theorem best_next {l : List PRec} (hv : ∀ r ∈ l, rightV r.view = true) {m : Nat} (hm : m ≤ 4096) : (bestL l ((m : Int) - 1) 5000 = 5000 ∧ viewsTo l 4096 = viewsTo l m) ∨
    (∃ b : Nat, m ≤ b ∧ b < 4096 ∧ bestL l ((m : Int) - 1) 5000 = (b : Int) ∧ viewsTo l (b + 1) = viewsTo l m ++ [viewN (b : Int)]) := by
  obtain ⟨h1, h2, h3⟩ := bestL_spec l ((m : Int) - 1) 5000
  generalize bestL l ((m : Int) - 1) 5000 = x at *
  rcases h1 with h1 | ⟨r, hr, h4, h5, h6⟩
  · refine .inl ⟨h1, viewsTo_skip hm fun n hn1 hn2 => ?_⟩
    rw [Bool.eq_false_iff]
    intro hp
    obtain ⟨r, hr, h4, h5⟩ := presL_iff.1 hp
    have := h3 r hr h4 (by omega)
    omega
  · have hn := nameV_lt (hv r hr)
    obtain ⟨b, rfl⟩ : ∃ b : Nat, x = (b : Int) := ⟨x.toNat, by omega⟩
    refine .inr ⟨b, by omega, by omega, rfl, ?_⟩
    rw [viewsTo_succ, presL_iff.2 ⟨r, hr, h4, h5⟩, if_pos rfl, viewsTo_skip (m := m) (by omega) fun n hn1 hn2 => ?_]
    rw [Bool.eq_false_iff]
    intro hp
    obtain ⟨r', hr', h7, h8⟩ := presL_iff.1 hp
    have := h3 r' hr' h7 (by omega)
    omega
theorem viewsTo_len (l : List PRec) (m : Nat) : (viewsTo l m).length ≤ m := by
  unfold viewsTo
  rw [List.length_map]
  have := List.length_filter_le (presL l) (List.range m)
  rw [List.length_range] at this
  exact this
def lastN (x : AV) : Nat := match x with | .v (.int _ n) => (n + 1).toNat | _ => 0
@[simp] theorem lastN_int (k : IntKind) (n : Int) : lastN (.v (.int k n)) = (n + 1).toNat := rfl
def VwI (l : List PRec) (t : Nat → AV) (h : Nat → Option (List AV)) : Prop := ∃ (m : Nat) (tag : Tag), t 0 = .sl .no (eRs l) ∧ t 3 = .sl tag (eVs (viewsTo l m)) ∧ appOK tag 24 2 ∧ t 4 = eI ((m : Int) - 1) ∧ m ≤ 4096
def VbI (l : List PRec) (m : Nat) (tag : Tag) (t : Nat → AV) (h : Nat → Option (List AV)) : Prop := ∃ k : Nat, t 0 = .sl .no (eRs l) ∧ t 3 = .sl tag (eVs (viewsTo l m)) ∧ t 4 = eI ((m : Int) - 1) ∧ t 5 = eI (bestL (l.take k) ((m : Int) - 1) 5000) ∧ t 12 = .sl .no (eRs l) ∧ t 13 = eI l.length ∧ t 14 = eI k ∧ k ≤ l.length
def VbM (l : List PRec) (m : Nat) (tag : Tag) (t : Nat → AV) (h : Nat → Option (List AV)) : Prop := t 0 = .sl .no (eRs l) ∧ t 3 = .sl tag (eVs (viewsTo l m)) ∧ t 4 = eI ((m : Int) - 1) ∧ t 5 = eI (bestL l ((m : Int) - 1) 5000)
theorem views12_spec (l : List PRec) (hv : ∀ r ∈ l, rightV r.view = true) (hl : l.length ≤ 1000000000) : ASpec Tryz.prog 77 [.sl .no (eRs l)] (fun r => ∃ tag, r = .sl tag (eVs (viewsTo l 4096))) := by
  refine ASpec.of_awp Tryz.func77 (by kernel_rfl) rfl (by rw [Tryz.results77]) Tryz.ntmps77 ?_
  simp -implicitDefEqProofs
  refine bsK.std ?_
  simp -implicitDefEqProofs
  refine loopK.intro (VwI l) (fun t => 4096 - lastN (t 4)) ?_ ?_
  · exact ⟨0, _, by simp, by simp [viewsTo, eVs]; rfl, by simp, by simp, by omega⟩
  rintro t hh ⟨m, tag, g0, g3, gt, g4, hm⟩
  simp -implicitDefEqProofs [g0]
  intro _
  refine loopK.post (VbI l m tag) (fun t => l.length - natOf (t 14)) (VbM l m tag) ?_ ?_ ?_
  · exact ⟨0, by simp [g0], by simp [g3], by simp [g4], by simp [bestL], by simp, by simp, by simp, by omega⟩
  · rintro t hh ⟨k, q0, q3, q4, q5, q12, q13, q14, hk⟩
    by_cases hlt : k < l.length
    · have hlt' : (k : Int) < (l.length : Int) := by omega
      have hw : IntKind.i64.wrap ((k : Int) + 1) = ((k + 1 : Nat) : Int) := by rw [w64 (by omega) (by omega)]; omega
      obtain ⟨r, hx⟩ : ∃ r, l[k]? = some r := ⟨l[k], by simp [hlt]⟩
      have hst := bestL_step (m := (m : Int) - 1) hx
      have hrv := hv r (List.mem_of_getElem? hx)
      have hnm := name4_spec r.view hrv
      generalize bestL (l.take k) ((m : Int) - 1) 5000 = bb at *
      simp -implicitDefEqProofs [q12, q13, q14, hlt', hx, eRc]
      refine allocK.intro (fun b1 hb1 => ?_)
      simp -implicitDefEqProofs
      refine CallK.with hnm (by simp [eV]) ?_
      simp -implicitDefEqProofs
      unfold bestF relR at hst
      by_cases h1 : r.kind = 1 ∨ r.kind = 2 ∨ r.kind = 5
      · by_cases h2 : (m : Int) - 1 < nameV r.view
        · by_cases h3 : nameV r.view < bb
          · rw [if_pos ⟨by simpa using h1, h2, h3⟩] at hst
            rcases h1 with h1 | h1 | h1
            · simp -implicitDefEqProofs [h1, q4, q5, h2, h3, q14, hw]
              exact ⟨⟨k + 1, by simp [q0], by simp [q3], by simp [q4], by simp [hst], by simp [q12], by simp [q13], by simp, by omega⟩, by omega⟩
            · simp -implicitDefEqProofs [h1, q4, q5, h2, h3, q14, hw]
              exact ⟨⟨k + 1, by simp [q0], by simp [q3], by simp [q4], by simp [hst], by simp [q12], by simp [q13], by simp, by omega⟩, by omega⟩
            · simp -implicitDefEqProofs [h1, q4, q5, h2, h3, q14, hw]
              exact ⟨⟨k + 1, by simp [q0], by simp [q3], by simp [q4], by simp [hst], by simp [q12], by simp [q13], by simp, by omega⟩, by omega⟩
          · rw [if_neg (fun h => h3 h.2.2)] at hst
            rcases h1 with h1 | h1 | h1
            · simp -implicitDefEqProofs [h1, q4, q5, h2, h3, q14, hw]
              exact ⟨⟨k + 1, by simp [q0], by simp [q3], by simp [q4], by simp [hst, q5], by simp [q12], by simp [q13], by simp, by omega⟩, by omega⟩
            · simp -implicitDefEqProofs [h1, q4, q5, h2, h3, q14, hw]
              exact ⟨⟨k + 1, by simp [q0], by simp [q3], by simp [q4], by simp [hst, q5], by simp [q12], by simp [q13], by simp, by omega⟩, by omega⟩
            · simp -implicitDefEqProofs [h1, q4, q5, h2, h3, q14, hw]
              exact ⟨⟨k + 1, by simp [q0], by simp [q3], by simp [q4], by simp [hst, q5], by simp [q12], by simp [q13], by simp, by omega⟩, by omega⟩
        · rw [if_neg (fun h => h2 h.2.1)] at hst
          rcases h1 with h1 | h1 | h1
          · simp -implicitDefEqProofs [h1, q4, q5, h2, q14, hw]
            exact ⟨⟨k + 1, by simp [q0], by simp [q3], by simp [q4], by simp [hst, q5], by simp [q12], by simp [q13], by simp, by omega⟩, by omega⟩
          · simp -implicitDefEqProofs [h1, q4, q5, h2, q14, hw]
            exact ⟨⟨k + 1, by simp [q0], by simp [q3], by simp [q4], by simp [hst, q5], by simp [q12], by simp [q13], by simp, by omega⟩, by omega⟩
          · simp -implicitDefEqProofs [h1, q4, q5, h2, q14, hw]
            exact ⟨⟨k + 1, by simp [q0], by simp [q3], by simp [q4], by simp [hst, q5], by simp [q12], by simp [q13], by simp, by omega⟩, by omega⟩
      · rw [if_neg (fun h => h1 (by simpa using h.1))] at hst
        have h11 : ¬ r.kind = 1 := fun h => h1 (.inl h)
        have h12 : ¬ r.kind = 2 := fun h => h1 (.inr (.inl h))
        have h15 : ¬ r.kind = 5 := fun h => h1 (.inr (.inr h))
        simp -implicitDefEqProofs [h11, h12, h15, q4, q5, q14, hw]
        exact ⟨⟨k + 1, by simp [q0], by simp [q3], by simp [q4], by simp [hst, q5], by simp [q12], by simp [q13], by simp, by omega⟩, by omega⟩
    · have hlt' : ¬ (k : Int) < (l.length : Int) := by omega
      rw [List.take_of_length_le (by omega)] at q5
      simp -implicitDefEqProofs [q13, q14, hlt']
      exact ⟨by simp [q0], by simp [q3], by simp [q4], by simp [q5]⟩
  rintro t hh ⟨q0, q3, q4, q5⟩
  rcases best_next hv hm with ⟨e1, e2⟩ | ⟨b, hb1, hb2, e1, e2⟩
  · rw [e1] at q5
    simp -implicitDefEqProofs [q5, q3, e2]
  · rw [e1] at q5
    have hne : ¬ (b : Int) = 5000 := by omega
    have hnd := named4_spec (b : Int)
    have hvl := viewsTo_len l m
    simp -implicitDefEqProofs [q5, hne]
    rw [namedA, if_pos (by omega)] at hnd
    have hvn : viewN (b : Int) = ⟨(b : Int) / 64, (b : Int) % 64⟩ := by unfold viewN; rw [if_pos (by omega)]
    refine CallK.eq hnd ?_
    simp -implicitDefEqProofs [eV]
    refine allocK.intro (fun b1 hb1 => ?_)
    simp -implicitDefEqProofs [q3, gt]
    refine ⟨by omega, ⟨b + 1, appTag tag 24 2 [eV (viewN (b : Int))], by simp [q0], ?_, by simp [gt], by simp, by omega⟩, ?_⟩
    · simp [e2, eVs, eV, hvn]
    · simp [g4]; omega
end Go.Proofs.YtjbbfiagijjdoaaGreat

/- Plain: the document's state behind records is the same. No condition. -/
set_option linter.unusedSimpArgs false
set_option linter.unusedVariables false
set_option maxRecDepth 10000
namespace Go.Proofs.YtjbbfiagijjdoaaGreat
open Go Go.Rw Go.Proofs

def heldL (v : PView) (l : List PRec) : PView := l.foldl (fun h r => if r.kind = 3 ∧ withinV h r.view = true then r.view else h) v
def lastL (l : List PRec) : Int := l.foldl (fun n r => if r.kind = 4 ∧ n < r.n then r.n else n) 0
def incL (l : List PRec) : Int := l.foldl (fun n r => if r.kind = 6 ∧ n < r.n then r.n else n) 0
def bookV (l : List PRec) (v : PView) : Option PVB := if bookL l v = [] then none else some ⟨v, bookL l v⟩
def cellsV (l : List PRec) (v : PView) : Option PVC := if cellsL l v = [] then none else some ⟨v, cellsL l v⟩
def intentV (l : List PRec) (v : PView) : Option PVI := (intentL l v).map fun c => ⟨v, c⟩
def stateL (v : PView) (l : List PRec) : PState := ⟨(viewsTo l 4096).filterMap (bookV l), (viewsTo l 4096).filterMap (cellsV l), (viewsTo l 4096).filterMap (intentV l), heldL v l, incL l, lastL l⟩
theorem heldL_step {v : PView} {l : List PRec} {k : Nat} {r : PRec} (h : l[k]? = some r) : heldL v (l.take (k + 1)) = if r.kind = 3 ∧ withinV (heldL v (l.take k)) r.view = true then r.view else heldL v (l.take k) := by
  unfold heldL
  rw [List.take_add_one, h, List.foldl_append]; rfl
theorem lastL_step {l : List PRec} {k : Nat} {r : PRec} (h : l[k]? = some r) : lastL (l.take (k + 1)) = if r.kind = 4 ∧ lastL (l.take k) < r.n then r.n else lastL (l.take k) := by
  unfold lastL
  rw [List.take_add_one, h, List.foldl_append]; rfl
theorem incL_step {l : List PRec} {k : Nat} {r : PRec} (h : l[k]? = some r) : incL (l.take (k + 1)) = if r.kind = 6 ∧ incL (l.take k) < r.n then r.n else incL (l.take k) := by
  unfold incL
  rw [List.take_add_one, h, List.foldl_append]; rfl
theorem intentL_step {v : PView} {l : List PRec} {k : Nat} {r : PRec} (h : l[k]? = some r) : intentL (l.take (k + 1)) v = if r.kind = 5 ∧ r.view = v ∧ intentL (l.take k) v = none then some r.cell.change else intentL (l.take k) v := by
  unfold intentL
  rw [List.take_add_one, h, List.find?_append]
  cases hf : (l.take k).find? (fun r => decide (r.kind = 5 ∧ r.view = v)) with
  | some x => simp
  | none =>
    by_cases h1 : r.kind = 5 ∧ r.view = v
    · simp [h1]
    · rw [if_neg (fun h => h1 ⟨h.1, h.2.1⟩)]
      simp [h1]
theorem merge_ne {a : List PEntry} {e : PEntry} (ha : okB a) (he : okB [e]) : ¬ mergeE a [e] = [] := by
  intro h
  have h1 := findE_merge ha he e.key
  rw [h, findE_one, if_pos rfl] at h1
  have h2 := newer_rightT (findE a e.key) e
  rw [← h1] at h2
  have h3 := (he.2 e (by simp)).2.2.2
  rw [lessT_no] at h2
  have h4 : (findE ([] : List PEntry) e.key).tag = ⟨0, 0⟩ := rfl
  rw [h4] at h2
  simp only at h2
  omega
theorem mergeC_ne {a : List PCell} {c : PCell} (ha : okCs a) (hc : okCs [c]) : ¬ mergeC a [c] = [] := by
  intro h
  have h1 := ofC_merge ha hc c.node
  rw [h, ofC_one, if_pos rfl] at h1
  split at h1
  · rename_i h2
    rw [← h1] at h2; simp [ofC] at h2
  · simp [ofC] at h1
/-- what the state tells is what all records tell -/
structure TellsL (v : PView) (l : List PRec) (s : PState) : Prop where
  book : ∀ u, rightV u = true → bookS s u = bookL l u
  cells : ∀ u, rightV u = true → cellsS s u = cellsL l u
  intent : ∀ u, rightV u = true → intentS s u = intentL l u
  held : s.held = heldL v l
  last : s.last = lastL l
  inc : s.inc = incL l
  bne : ∀ x ∈ s.books, ¬ x.book = []
  cne : ∀ x ∈ s.cells, ¬ x.cells = []
theorem tells_new (v : PView) : TellsL v [] (newS v) :=
  ⟨fun u hu => rfl, fun u hu => rfl, fun u hu => rfl, rfl, rfl, rfl, fun x hx => by simp [newS] at hx, fun x hx => by simp [newS] at hx⟩
theorem tells_fold {v : PView} (hv : rightV v = true) {l : List PRec} (hl : ∀ r ∈ l, rightR r = true) (k : Nat) (hk : k ≤ l.length) : TellsL v (l.take k) (foldS v (l.take k)) := by
  induction k with
  | zero => exact tells_new v
  | succ k ih =>
    have hx : l[k]? = some l[k] := List.getElem?_eq_getElem (by omega)
    have T := ih (by omega)
    have O := okT_fold hv hl k (by omega)
    have hr := hl _ (List.mem_of_getElem? hx)
    have hn := okN_apply O.toOkN hr
    generalize l[k] = r at *
    have hx' := hx
    rw [foldS_step hx]
    generalize foldS v (l.take k) = s at *
    have R := rightR_of hr
    refine ⟨fun u hu => ?_, fun u hu => ?_, fun u hu => ?_, ?_, ?_, ?_, fun x hx => ?_, fun x hx => ?_⟩
    · rw [bookS_apply O.toOkN hr hu, bookL_step hx', ← T.book u hu]
      split
      · rename_i h
        rw [mergeD_eq (O.bookOk u).right (R.entry h.1).right]
      · rfl
    · rw [cellsS_apply O.toOkN hr hu, cellsL_step hx', ← T.cells u hu]
    · rw [intentS_apply O.toOkN hr hu, intentL_step hx', ← T.intent u hu]
    · rw [apply_held, heldL_step hx', ← T.held]
    · rw [apply_last, lastL_step hx', ← T.last]
      by_cases h4 : r.kind = 4
      · rw [if_pos h4]
        by_cases h5 : s.last < r.n
        · rw [if_pos ⟨h4, h5⟩]; omega
        · rw [if_neg (fun h => h5 h.2)]; omega
      · rw [if_neg h4, if_neg (fun h => h4 h.1)]
    · rw [apply_inc, incL_step hx', ← T.inc]
      by_cases h4 : r.kind = 6
      · rw [if_pos h4]
        by_cases h5 : s.inc < r.n
        · rw [if_pos ⟨h4, h5⟩]; omega
        · rw [if_neg (fun h => h5 h.2)]; omega
      · rw [if_neg h4, if_neg (fun h => h4 h.1)]
    · rw [look_mem hn.sb, apply_books] at hx
      split at hx
      · rename_i h
        obtain rfl := Option.some.inj hx
        exact merge_ne (O.bookOk r.view) (R.entry h.1)
      · exact T.bne x (look_some hx).1
    · rw [look_mem hn.sc, apply_cells] at hx
      split at hx
      · rename_i h
        obtain rfl := Option.some.inj hx
        show ¬ mergeS _ _ = []
        rw [mergeS_eq (O.cells r.view) (okCs_one (right_cell hr).2)]
        exact mergeC_ne (O.cells r.view) (okCs_one (right_cell hr).2)
      · exact T.cne x (look_some hx).1
section
variable {α : Type} {key : α → Int}
theorem sort_ext' {l m : List α} (hl : sortK key l) (hm : sortK key m) (h : ∀ x, x ∈ l ↔ x ∈ m) : l = m := by
  have hp : l.Perm m := (List.perm_ext_iff_of_nodup (nodupK hl) (nodupK hm)).2 h
  refine List.Perm.eq_of_pairwise (le := fun x y => key x ≤ key y) (fun x y hx hy h1 h2 => ?_) (hl.imp fun h => by omega) (hm.imp fun h => by omega) hp
  exact key_inj hl hx ((hp.mem_iff).2 hy) (by omega)
end
theorem views_sorted (l : List PRec) : (viewsTo l 4096).Pairwise fun a b => nameV a < nameV b := by
  unfold viewsTo
  rw [List.pairwise_map]
  have h1 : ((List.range 4096).filter (presL l)).Pairwise (· < ·) := List.Pairwise.filter _ List.pairwise_lt_range
  refine List.Pairwise.imp_of_mem (fun {a b} ha hb hab => ?_) h1
  have h2 := List.mem_range.1 (List.mem_filter.1 ha).1
  have h3 := List.mem_range.1 (List.mem_filter.1 hb).1
  rw [nameV_view (by omega), nameV_view (by omega)]
  omega
theorem views_mem {l : List PRec} (hl : ∀ r ∈ l, rightV r.view = true) {u : PView} : u ∈ viewsTo l 4096 ↔ ∃ r ∈ l, relR r = true ∧ r.view = u := by
  unfold viewsTo
  rw [List.mem_map]
  constructor
  · rintro ⟨n, hn, rfl⟩
    obtain ⟨h1, h2⟩ := List.mem_filter.1 hn
    obtain ⟨r, hr, h3, h4⟩ := presL_iff.1 h2
    refine ⟨r, hr, h3, ?_⟩
    rw [← h4, viewN_name (hl r hr)]
  · rintro ⟨r, hr, h3, rfl⟩
    have h5 := nameV_lt (hl r hr)
    refine ⟨(nameV r.view).toNat, List.mem_filter.2 ⟨List.mem_range.2 (by omega), presL_iff.2 ⟨r, hr, h3, by omega⟩⟩, ?_⟩
    rw [show (((nameV r.view).toNat : Nat) : Int) = nameV r.view by omega, viewN_name (hl r hr)]
theorem bookL_ne {l : List PRec} {u : PView} (h : ¬ bookL l u = []) : ∃ r ∈ l, relR r = true ∧ r.view = u := by
  refine Classical.byContradiction fun hno => h ?_
  unfold bookL
  have : ∀ (l' : List PRec) (b : List PEntry), (∀ r ∈ l', r ∈ l) → l'.foldl (fun b r => if r.kind = 1 ∧ r.view = u then mergeD b [r.entry] else b) b = b := by
    intro l'
    induction l' with
    | nil => intro b _; rfl
    | cons r l' ih =>
      intro b hsub
      rw [List.foldl_cons, if_neg, ih b (fun x hx => hsub x (by simp [hx]))]
      rintro ⟨h1, h2⟩
      exact hno ⟨r, hsub r (by simp), by simp [relR, h1], h2⟩
  exact this l [] fun r hr => hr
theorem cellsL_ne {l : List PRec} {u : PView} (h : ¬ cellsL l u = []) : ∃ r ∈ l, relR r = true ∧ r.view = u := by
  refine Classical.byContradiction fun hno => h ?_
  unfold cellsL
  have : ∀ (l' : List PRec) (b : List PCell), (∀ r ∈ l', r ∈ l) → l'.foldl (fun b r => if r.kind = 2 ∧ r.view = u then mergeC b [r.cell] else b) b = b := by
    intro l'
    induction l' with
    | nil => intro b _; rfl
    | cons r l' ih =>
      intro b hsub
      rw [List.foldl_cons, if_neg, ih b (fun x hx => hsub x (by simp [hx]))]
      rintro ⟨h1, h2⟩
      exact hno ⟨r, hsub r (by simp), by simp [relR, h1], h2⟩
  exact this l [] fun r hr => hr
theorem intentL_ne {l : List PRec} {u c : PView} (h : intentL l u = some c) : ∃ r ∈ l, relR r = true ∧ r.view = u := by
  unfold intentL at h
  cases hf : l.find? (fun r => decide (r.kind = 5 ∧ r.view = u)) with
  | none => rw [hf] at h; simp at h
  | some r =>
    have h1 := List.find?_some hf
    simp at h1
    exact ⟨r, List.mem_of_find?_eq_some hf, by simp [relR, h1.1], h1.2⟩
theorem state_eq {v : PView} (hv : rightV v = true) {l : List PRec} (hl : ∀ r ∈ l, rightR r = true) : stateL v l = foldS v l := by
  have T := tells_fold hv hl l.length (Nat.le_refl _)
  have O := okT_fold hv hl l.length (Nat.le_refl _)
  rw [List.take_length] at T O
  have hlv : ∀ r ∈ l, rightV r.view = true := fun r hr => (right_cell (hl r hr)).1
  have hvr : ∀ u ∈ viewsTo l 4096, rightV u = true := fun u hu => by
    obtain ⟨r, hr, _, rfl⟩ := (views_mem hlv).1 hu
    exact hlv r hr
  generalize foldS v l = s at *
  obtain ⟨bs, cs, is, h, i, a⟩ := s
  have e1 : (viewsTo l 4096).filterMap (bookV l) = bs := by
    refine sort_ext' (key := keyVB) ?_ O.sb fun x => ?_
    · unfold sortK
      rw [List.pairwise_filterMap]
      refine (views_sorted l).imp fun {u w} h x hx y hy => ?_
      unfold bookV at hx hy
      split at hx <;> split at hy <;> simp at hx hy
      subst hx; subst hy
      exact h
    · rw [List.mem_filterMap]
      constructor
      · rintro ⟨u, hu, hx⟩
        unfold bookV at hx
        split at hx
        · simp at hx
        · rename_i hne
          obtain rfl := Option.some.inj hx
          have h1 := T.book u (hvr u hu)
          rw [bookS_look O.sb] at h1
          cases hk : lookK keyVB bs (nameV u) with
          | none => simp only [hk] at h1; exact absurd h1.symm hne
          | some y =>
            simp only [hk, Option.map_some, Option.getD_some] at h1
            obtain ⟨h2, h3⟩ := look_some hk
            have h4 : y.view = u := name_inj (O.rb y h2) (hvr u hu) h3
            have : y = ⟨u, bookL l u⟩ := by rw [← h1, ← h4]
            rw [← this]; exact h2
      · intro hx
        have h1 := T.book x.view (O.rb x hx)
        rw [bookS_look O.sb, show nameV x.view = keyVB x from rfl, (look_mem O.sb).1 hx] at h1
        simp only [Option.map_some, Option.getD_some] at h1
        have hne : ¬ bookL l x.view = [] := by rw [← h1]; exact T.bne x hx
        refine ⟨x.view, (views_mem hlv).2 (bookL_ne hne), ?_⟩
        unfold bookV
        rw [if_neg hne, ← h1]
  have e2 : (viewsTo l 4096).filterMap (cellsV l) = cs := by
    refine sort_ext' (key := keyVC) ?_ O.sc fun x => ?_
    · unfold sortK
      rw [List.pairwise_filterMap]
      refine (views_sorted l).imp fun {u w} h x hx y hy => ?_
      unfold cellsV at hx hy
      split at hx <;> split at hy <;> simp at hx hy
      subst hx; subst hy
      exact h
    · rw [List.mem_filterMap]
      constructor
      · rintro ⟨u, hu, hx⟩
        unfold cellsV at hx
        split at hx
        · simp at hx
        · rename_i hne
          obtain rfl := Option.some.inj hx
          have h1 := T.cells u (hvr u hu)
          rw [cellsS_look O.sc] at h1
          cases hk : lookK keyVC cs (nameV u) with
          | none => simp only [hk] at h1; exact absurd h1.symm hne
          | some y =>
            simp only [hk, Option.map_some, Option.getD_some] at h1
            obtain ⟨h2, h3⟩ := look_some hk
            have h4 : y.view = u := name_inj (O.rc y h2) (hvr u hu) h3
            have : y = ⟨u, cellsL l u⟩ := by rw [← h1, ← h4]
            rw [← this]; exact h2
      · intro hx
        have h1 := T.cells x.view (O.rc x hx)
        rw [cellsS_look O.sc, show nameV x.view = keyVC x from rfl, (look_mem O.sc).1 hx] at h1
        simp only [Option.map_some, Option.getD_some] at h1
        have hne : ¬ cellsL l x.view = [] := by rw [← h1]; exact T.cne x hx
        refine ⟨x.view, (views_mem hlv).2 (cellsL_ne hne), ?_⟩
        unfold cellsV
        rw [if_neg hne, ← h1]
  have e3 : (viewsTo l 4096).filterMap (intentV l) = is := by
    refine sort_ext' (key := keyVI) ?_ O.si fun x => ?_
    · unfold sortK
      rw [List.pairwise_filterMap]
      refine (views_sorted l).imp fun {u w} h x hx y hy => ?_
      unfold intentV at hx hy
      simp only [Option.map_eq_some_iff] at hx hy
      obtain ⟨_, _, rfl⟩ := hx
      obtain ⟨_, _, rfl⟩ := hy
      exact h
    · rw [List.mem_filterMap]
      constructor
      · rintro ⟨u, hu, hx⟩
        unfold intentV at hx
        rw [Option.map_eq_some_iff] at hx
        obtain ⟨c, hc, rfl⟩ := hx
        have h1 := T.intent u (hvr u hu)
        rw [intentS_look O.si, hc, Option.map_eq_some_iff] at h1
        obtain ⟨y, hk, h1⟩ := h1
        obtain ⟨h2, h3⟩ := look_some hk
        have h4 : y.view = u := name_inj (O.ri y h2) (hvr u hu) h3
        have : y = ⟨u, c⟩ := by rw [← h1, ← h4]
        rw [← this]; exact h2
      · intro hx
        have h1 := T.intent x.view (O.ri x hx)
        rw [intentS_look O.si, show nameV x.view = keyVI x from rfl, (look_mem O.si).1 hx] at h1
        simp only [Option.map_some] at h1
        refine ⟨x.view, (views_mem hlv).2 (intentL_ne h1.symm), ?_⟩
        unfold intentV
        rw [← h1]
        rfl
  have e4 := T.held
  have e5 := T.last
  have e6 := T.inc
  simp only at e4 e5 e6
  unfold stateL
  rw [e1, e2, e3, ← e4, ← e5, ← e6]
end Go.Proofs.YtjbbfiagijjdoaaGreat

/- Plain: the same log behind itself changes nothing; records of unlike kinds or views may turn. No condition. -/
set_option linter.unusedSimpArgs false
set_option linter.unusedVariables false
set_option maxRecDepth 10000
namespace Go.Proofs.YtjbbfiagijjdoaaGreat
open Go Go.Rw Go.Proofs

/-- the state has the record -/
def hasRec (s : PState) (r : PRec) : Prop :=
  (r.kind = 1 → ∃ b, lookK keyVB s.books (nameV r.view) = some ⟨r.view, b⟩ ∧ lessT (findE b r.entry.key).tag r.entry.tag = false) ∧
  (r.kind = 2 → ∃ c, lookK keyVC s.cells (nameV r.view) = some ⟨r.view, c⟩ ∧ (ofC c r.cell.node).isSome = true) ∧
  (r.kind = 3 → ¬ (withinV s.held r.view = true ∧ ¬ s.held = r.view)) ∧
  (r.kind = 4 → r.n ≤ s.last) ∧
  (r.kind = 5 → (intentS s r.view).isSome = true) ∧
  (r.kind = 6 → r.n ≤ s.inc)
/-! ### within -/
theorem setN_zero_b : ∀ a b c d e g : Bool, ((if a then (1 : Int) else 0) + (if b then 2 else 0) + (if c then 4 else 0) + (if d then 8 else 0) + (if e then 16 else 0) + (if g then 32 else 0) = 0 ↔ (a = false ∧ b = false ∧ c = false ∧ d = false ∧ e = false ∧ g = false)) := by decide
theorem setN_zero (f : Nat → Bool) : setN f = 0 ↔ ∀ k, k < 6 → f k = false := by
  unfold setN
  rw [setN_zero_b]
  constructor
  · rintro ⟨h0, h1, h2, h3, h4, h5⟩ k hk
    match k, hk with
    | 0, _ => exact h0
    | 1, _ => exact h1
    | 2, _ => exact h2
    | 3, _ => exact h3
    | 4, _ => exact h4
    | 5, _ => exact h5
    | k + 6, hk => omega
  · intro h
    exact ⟨h 0 (by omega), h 1 (by omega), h 2 (by omega), h 3 (by omega), h 4 (by omega), h 5 (by omega)⟩
theorem andN_zero (x y : Int) : andN x y = 0 ↔ ∀ k, k < 6 → bitV x k = true → bitV y k = true := by
  unfold andN
  rw [setN_zero]
  refine forall_congr' fun k => forall_congr' fun hk => ?_
  cases bitV x k <;> cases bitV y k <;> simp
theorem within_iff (a b : PView) : withinV a b = true ↔ (∀ k, k < 6 → bitV a.add k = true → bitV b.add k = true) ∧ ∀ k, k < 6 → bitV a.del k = true → bitV b.del k = true := by
  unfold withinV minusV
  rw [decide_eq_true_eq, PView.mk.injEq, andN_zero, andN_zero]
theorem within_trans {a b c : PView} (h1 : withinV a b = true) (h2 : withinV b c = true) : withinV a c = true := by
  rw [within_iff] at *
  exact ⟨fun k hk h => h2.1 k hk (h1.1 k hk h), fun k hk h => h2.2 k hk (h1.2 k hk h)⟩
/-! ### what was written is there -/
theorem held_grows {s : PState} (r : PRec) : withinV s.held (applyS s r).held = true := by
  rw [apply_held]
  split
  · rename_i h; exact h.2
  · exact withinV_self _
end Go.Proofs.YtjbbfiagijjdoaaGreat

/- Plain: the views seen, and where they come from. No condition. -/
set_option linter.unusedSimpArgs false
set_option linter.unusedVariables false
set_option maxRecDepth 10000
namespace Go.Proofs.YtjbbfiagijjdoaaGreat
open Go Go.Rw Go.Proofs

/-- the views of which something is known, in their order -/
def seenV (s : PState) : List PView := dedA (Go.Sort.sort (ltV cmV) (allV s).toArray).toList
theorem seenV_ok {s : PState} (hr : ∀ x ∈ allV s, rightV x = true) : SeenOf s (seenV s) := by
  obtain ⟨hP, hS⟩ := Go.Sort.sort_sorts (ltV cmV) swoV (allV s).toArray
  have hperm := perm_list hP
  have hdl : (allV s).toArray.toList = allV s := rfl
  rw [← hP.1] at hS
  have hsorted := sorted_list hS
  obtain ⟨o1, o2⟩ := dedA_sorted (fun x hx => hr x (by rw [← hdl]; exact hperm.mem_iff.1 hx)) hsorted
  exact ⟨o1, fun x => by rw [seenV, o2, hperm.mem_iff]⟩
theorem seen_is (s : PState) (hr : ∀ x ∈ allV s, rightV x = true) (hl : (allV s).length ≤ 1000000) : ASpec Tryz.prog 34 [.agg (eSt s)] (fun r => ∃ tag, r = .sl tag (eVs (seenV s))) :=
  (seen_spec s hr hl).mono fun r ⟨tag, out, h1, h2⟩ => ⟨tag, by rw [h1, seen_unique h2 (seenV_ok hr)]⟩
theorem all_right {n : Nat} {s : PState} (h : OkT n s) : ∀ x ∈ allV s, rightV x = true := by
  intro x hx
  simp only [allV, List.mem_append, List.mem_map, List.mem_singleton] at hx
  rcases hx with ((hx | ⟨y, hy, rfl⟩) | ⟨y, hy, rfl⟩) | ⟨y, hy, rfl⟩
  · rw [hx]; exact h.rh
  · exact h.rb y hy
  · exact h.rc y hy
  · exact h.ri y hy
theorem all_len {n : Nat} {s : PState} (h : OkT n s) : (allV s).length ≤ 1 + 3 * n := by
  have h1 := h.lb
  have h2 := h.lc
  have h3 := h.li
  simp [allV]; omega
theorem seen_len (s : PState) : (seenV s).length ≤ (allV s).length := by
  have h1 := dedA_len (Go.Sort.sort (ltV cmV) (allV s).toArray).toList
  have h2 := (Go.Sort.sort_sorts (ltV cmV) swoV (allV s).toArray).1.1
  have h3 : (Go.Sort.sort (ltV cmV) (allV s).toArray).toList.length = (Go.Sort.sort (ltV cmV) (allV s).toArray).size := Array.length_toList
  rw [h3, h2] at h1
  exact h1
/-- a view of which records or the beginning speak -/
def knownR (x : PView) (r : PRec) : Bool := decide (r.view = x) && !decide (r.kind = 4) && !decide (r.kind = 6)
def knownV (v : PView) (l : List PRec) (x : PView) : Bool := decide (x = v) || l.any (knownR x)
theorem held_known (v : PView) (l : List PRec) : heldL v l = v ∨ ∃ r ∈ l, r.kind = 3 ∧ r.view = heldL v l := by
  refine snoc_ind (P := fun l => heldL v l = v ∨ ∃ r ∈ l, r.kind = 3 ∧ r.view = heldL v l) (Or.inl rfl) (fun l y ih => ?_) l
  have e : heldL v (l ++ [y]) = if y.kind = 3 ∧ withinV (heldL v l) y.view = true then y.view else heldL v l := by
    unfold heldL; rw [List.foldl_append]; rfl
  rw [e]
  split
  · rename_i h
    exact Or.inr ⟨y, by simp, h.1, rfl⟩
  · rcases ih with h | ⟨r, h1, h2, h3⟩
    · exact Or.inl h
    · exact Or.inr ⟨r, by simp [h1], h2, h3⟩
theorem seen_known {v : PView} (hv : rightV v = true) {l : List PRec} (hl : ∀ r ∈ l, rightR r = true) : ∀ x ∈ allV (foldS v l), knownV v l x = true := by
  rw [← state_eq hv hl]
  have hlv : ∀ r ∈ l, rightV r.view = true := fun r hr => (right_cell (hl r hr)).1
  have hrel : ∀ {u : PView}, u ∈ viewsTo l 4096 → knownV v l u = true := fun {u} hu => by
    obtain ⟨r, h1, h2, h3⟩ := (views_mem hlv).1 hu
    unfold knownV
    rw [Bool.or_eq_true]
    refine Or.inr (List.any_eq_true.2 ⟨r, h1, ?_⟩)
    have h4 : r.kind = 1 ∨ r.kind = 2 ∨ r.kind = 5 := by simpa [relR] using h2
    simp only [knownR, Bool.and_eq_true, decide_eq_true_eq, Bool.not_eq_true', decide_eq_false_iff_not]
    exact ⟨⟨h3, by omega⟩, by omega⟩
  intro x hx
  simp only [allV, stateL, List.mem_append, List.mem_map, List.mem_singleton, List.mem_filterMap] at hx
  rcases hx with ((hx | ⟨y, ⟨u, hu, he⟩, rfl⟩) | ⟨y, ⟨u, hu, he⟩, rfl⟩) | ⟨y, ⟨u, hu, he⟩, rfl⟩
  · rcases held_known v l with h | ⟨r, h1, h2, h3⟩
    · rw [hx, h]; simp [knownV]
    · unfold knownV
      rw [Bool.or_eq_true]
      refine Or.inr (List.any_eq_true.2 ⟨r, h1, ?_⟩)
      simp only [knownR, Bool.and_eq_true, decide_eq_true_eq, Bool.not_eq_true', decide_eq_false_iff_not]
      exact ⟨⟨by rw [hx, h3], by omega⟩, by omega⟩
  · unfold bookV at he
    split at he
    · cases he
    · cases he; exact hrel hu
  · unfold cellsV at he
    split at he
    · cases he
    · cases he; exact hrel hu
  · unfold intentV at he
    cases h : intentL l u with
    | none => rw [h] at he; cases he
    | some c => rw [h] at he; cases he; exact hrel hu
/-- of what isn't seen nothing is told -/
theorem seen_not {n : Nat} {s : PState} (h : OkT n s) {q : PView} (hq : rightV q = true) (hn : ¬ q ∈ seenV s) : bookS s q = [] ∧ cellsS s q = [] ∧ intentS s q = none ∧ ¬ s.held = q := by
  rw [(seenV_ok (all_right h)).2] at hn
  simp only [allV, List.mem_append, List.mem_map, List.mem_singleton, not_or, not_exists, not_and] at hn
  obtain ⟨⟨⟨h1, h2⟩, h3⟩, h4⟩ := hn
  refine ⟨?_, ?_, ?_, fun e => h1 e.symm⟩
  · rw [bookS_look h.sb]
    cases e : lookK keyVB s.books (nameV q) with
    | none => rfl
    | some y => exact absurd (name_inj (h.rb y (look_some e).1) hq (look_some e).2) (h2 y (look_some e).1)
  · rw [cellsS_look h.sc]
    cases e : lookK keyVC s.cells (nameV q) with
    | none => rfl
    | some y => exact absurd (name_inj (h.rc y (look_some e).1) hq (look_some e).2) (h3 y (look_some e).1)
  · rw [intentS_look h.si]
    cases e : lookK keyVI s.intents (nameV q) with
    | none => rfl
    | some y => exact absurd (name_inj (h.ri y (look_some e).1) hq (look_some e).2) (h4 y (look_some e).1)
end Go.Proofs.YtjbbfiagijjdoaaGreat

/- Contracts: what a node answers. No condition. -/
set_option linter.unusedSimpArgs false
set_option linter.unusedVariables false
set_option maxRecDepth 10000
namespace Go.Proofs.YtjbbfiagijjdoaaGreat
open Go Go.Rw Go.Proofs
-- a goal is never to be run by the elaborator
attribute [local irreducible] awp aops aop aopsE aeff

def eMq (t1 t2 : Tag) (m : PMsg) : List AV := [eI m.kind, eI m.frm, eI m.to, eI m.inc, eI m.seq, eI m.view.add, eI m.view.del, .sl t1 (eCs m.cells), .sl t2 (eEs m.book)]
/-- what a node answers, as a caller has it -/
def serveA (me : Int) (s : PState) (q : PMsg) : AV := .tup [.sl .no (eRs (recsS me s q)), .agg (eM (answerS me s q)), .v (.bool (servable me q))]
def ServeR (me : Int) (s : PState) (q : PMsg) (r : AV) : Prop := r = serveA me s q
theorem servable_no {me : Int} {q : PMsg} (h : ¬ (q.to = me ∧ 0 ≤ q.kind ∧ q.kind ≤ 4)) : servable me q = false := by
  unfold servable
  rw [Bool.and_eq_false_iff, decide_eq_false_iff_not, decide_eq_false_iff_not]
  by_cases h1 : q.to = me
  · exact .inr fun h2 => h ⟨h1, h2⟩
  · exact .inl h1
theorem ServeR.no {me : Int} {s : PState} {q : PMsg} (h : ¬ (q.to = me ∧ 0 ≤ q.kind ∧ q.kind ≤ 4)) : ServeR me s q (.tup [.sl .no [], .agg [eI 0, eI 0, eI 0, eI 0, eI 0, eI 0, eI 0, .sl .no [], .sl .no []], .v (.bool false)]) := by
  unfold ServeR
  rw [serveA, recsS, answerS, servable_no h]
  rfl
theorem ServeR.yes {me : Int} {s : PState} {q : PMsg} (h : q.to = me) (h1 : 0 ≤ q.kind) (h2 : q.kind ≤ 4) {r : AV} (hr : r = .tup [.sl .no (eRs (wroteS s q)), .agg (eM (tellS me s q)), .v (.bool true)]) : ServeR me s q r := by
  have e : servable me q = true := by simp [servable, h, h1, h2]
  unfold ServeR
  rw [serveA, recsS, answerS, e]
  exact hr
def SvM (me : Int) (s : PState) (q : PMsg) (b3 b4 : Nat) (t : Nat → AV) (h : Nat → Option (List AV)) : Prop := ∃ tag : Tag, t 7 = .ptr b3 0 ∧ t 10 = .ptr b4 0 ∧ t 9 = .sl tag (eRs (wroteS s q)) ∧ (∃ z, h b3 = some z ∧ z.length = 9) ∧ h b4 = some (eMq .nil .nil (ansM me q))
def SvC (me : Int) (s : PState) (q : PMsg) (l : List PCell) (b2 b3 b4 : Nat) (t : Nat → AV) (h : Nat → Option (List AV)) : Prop := ∃ (k : Nat) (tag : Tag), t 5 = .ptr b2 0 ∧ t 7 = .ptr b3 0 ∧ t 10 = .ptr b4 0 ∧ t 9 = .sl tag (eRs ((l.take k).map (recC q.view))) ∧ appOK tag 66 11 ∧ t 57 = .sl .no (eCs l) ∧ t 58 = eI l.length ∧ t 59 = eI k ∧ k ≤ l.length ∧ h b2 = some (eM q) ∧ (∃ z, h b3 = some z ∧ z.length = 9) ∧ h b4 = some (eMq .nil .nil (ansM me q))
def SvE (me : Int) (s : PState) (q : PMsg) (l : List PEntry) (b2 b3 b4 : Nat) (t : Nat → AV) (h : Nat → Option (List AV)) : Prop := ∃ (k : Nat) (tag : Tag), t 5 = .ptr b2 0 ∧ t 7 = .ptr b3 0 ∧ t 10 = .ptr b4 0 ∧ t 9 = .sl tag (eRs ((l.take k).map (recE q.view))) ∧ appOK tag 66 11 ∧ t 79 = .sl .no (eEs l) ∧ t 80 = eI l.length ∧ t 81 = eI k ∧ k ≤ l.length ∧ h b2 = some (eM q) ∧ (∃ z, h b3 = some z ∧ z.length = 9) ∧ h b4 = some (eMq .nil .nil (ansM me q))
end Go.Proofs.YtjbbfiagijjdoaaGreat

/- Plain laws: logs there and back. No condition. -/
set_option linter.unusedSimpArgs false
set_option linter.unusedVariables false
namespace Go.Proofs.YtjbbfiagijjdoaaGreat
open Go Go.Rw Go.Proofs

def fitR (r : PRec) : Prop := r.entry.value < 18446744073709551616
def recsB (l : List PRec) : List UInt8 := l.flatMap recB
@[simp] theorem recsB_nil : recsB [] = [] := rfl
end Go.Proofs.YtjbbfiagijjdoaaGreat

/- Contracts: texts; records. No condition. -/
set_option linter.unusedSimpArgs false
set_option linter.unusedVariables false
set_option maxRecDepth 10000
namespace Go.Proofs.YtjbbfiagijjdoaaGreat
open Go Go.Rw Go.Proofs
-- a goal is never to be run by the elaborator
attribute [local irreducible] awp aops aop aopsE aeff

@[simp] theorem take_len_drop {α : Type} (l : List α) (n : Nat) : (l.drop n).take (l.length - n) = l.drop n := List.take_of_length_le (by simp)
def textA (b t : List UInt8) : AV := if 4000 < t.length then .tup [.sl .no [], eI 21] else .tup [.sl .no (eB (b ++ formF t.length ++ t)), eI 0]
def cutA (o : Option (List UInt8 × List UInt8)) : AV := match o with
  | some (t, r) => .tup [.sl .no (eB t), .sl .no (eB r), eI 0]
  | none => .tup [.sl .no [], .sl .no [], eI 21]
end Go.Proofs.YtjbbfiagijjdoaaGreat

/- Contracts: which records can be, and their bytes. No condition. -/
set_option linter.unusedSimpArgs false
set_option linter.unusedVariables false
set_option maxRecDepth 10000
namespace Go.Proofs.YtjbbfiagijjdoaaGreat
open Go Go.Rw Go.Proofs
-- a goal is never to be run by the elaborator
attribute [local irreducible] awp aops aop aopsE aeff

end Go.Proofs.YtjbbfiagijjdoaaGreat

/- Contracts: records as numbers and bytes. No condition. -/
set_option linter.unusedSimpArgs false
set_option linter.unusedVariables false
set_option maxRecDepth 10000
namespace Go.Proofs.YtjbbfiagijjdoaaGreat
open Go Go.Rw Go.Proofs

def Nums (r : PRec) (x : AV) : Prop := ∃ tag, x = .sl tag (eU (numsR r))
def bytesA (o : Option (List UInt8)) : AV := match o with
  | some l => .tup [.sl .no (eB l), eI 0]
  | none => .tup [.sl .no [], eI 91]
end Go.Proofs.YtjbbfiagijjdoaaGreat

/- Contracts: records are read. No condition. -/
set_option linter.unusedSimpArgs false
set_option linter.unusedVariables false
set_option maxRecDepth 10000
namespace Go.Proofs.YtjbbfiagijjdoaaGreat
open Go Go.Rw Go.Proofs

def viewA (n : Nat) : AV := .tup [.agg (eV ((nmdV n).getD zV)), .v (.bool (nmdV n).isSome)]
/-- what is read: a record, if it can be -/
def OptR (o : Option PRec) (x : AV) : Prop := ∃ r, x = .tup [.agg (eRc r), .v (.bool o.isSome)] ∧ ∀ r', o = some r' → r' = r
end Go.Proofs.YtjbbfiagijjdoaaGreat

/- Contracts: log.one, log.Scan, log.Same. No condition. -/
set_option linter.unusedSimpArgs false
set_option linter.unusedVariables false
set_option maxRecDepth 10000
namespace Go.Proofs.YtjbbfiagijjdoaaGreat
open Go Go.Rw Go.Proofs

def LoneI (t0 body : List UInt8) (b : Nat) (t : Nat → AV) (h : Nat → Option (List AV)) : Prop := ∃ (k : Nat) (rest : List UInt8) (cur : List Nat) (tag : Tag), t 0 = .sl .no (eB t0) ∧ t 2 = .ptr b 0 ∧ t 4 = .sl .no (eB rest) ∧ t 6 = .sl tag (eU cur) ∧ appOK tag 166 1 ∧
  h b = some (eRc zR) ∧ rest.length ≤ k ∧ rest.length + cur.length ≤ body.length ∧ allF body = (getsF k rest).map (cur ++ ·)
def LoneM (body : List UInt8) (b : Nat) (t : Nat → AV) (h : Nat → Option (List AV)) : Prop := ∃ (cur : List Nat) (tag : Tag), t 2 = .ptr b 0 ∧ t 6 = .sl tag (eU cur) ∧ h b = some (eRc zR) ∧ allF body = some cur
def scanA (b : List UInt8) : AV := .tup [.sl .no (eRs (scanR b).1), eI (scanR b).2]
def ScI (b : List UInt8) (t : Nat → AV) (h : Nat → Option (List AV)) : Prop := ∃ (n : Nat) (cur : List PRec) (tag : Tag), t 0 = .sl .no (eB b) ∧ t 4 = .sl tag (eRs cur) ∧ t 5 = eI n ∧ appOK tag 66 11 ∧ n ≤ b.length ∧ cur.length ≤ n ∧
  scanR b = (cur ++ (scanR (b.drop n)).1, n + (scanR (b.drop n)).2)
def ScM (b : List UInt8) (t : Nat → AV) (h : Nat → Option (List AV)) : Prop := ∃ tag, t 4 = .sl tag (eRs (scanR b).1) ∧ t 5 = eI (scanR b).2
end Go.Proofs.YtjbbfiagijjdoaaGreat

/- Contracts: log.Same. No condition. -/
set_option linter.unusedSimpArgs false
set_option linter.unusedVariables false
set_option maxRecDepth 10000
namespace Go.Proofs.YtjbbfiagijjdoaaGreat
open Go Go.Rw Go.Proofs

def EqrI (a b : List PRec) (t : Nat → AV) (_ : Nat → Option (List AV)) : Prop := ∃ k : Nat, t 15 = .sl .no (eRs a) ∧ t 1 = .sl .no (eRs b) ∧ t 2 = .fn 129 [] ∧ t 16 = .v (.int .i64 a.length) ∧ t 17 = .v (.int .i64 k) ∧ k ≤ a.length ∧ sameRs (a.drop k) (b.drop k) = sameRs a b

end Go.Proofs.YtjbbfiagijjdoaaGreat

/- Plain: whether a record can be, told otherwise. -/
set_option linter.unusedSimpArgs false
set_option linter.unusedVariables false
set_option maxRecDepth 10000
namespace Go.Proofs.YtjbbfiagijjdoaaGreat
open Go Go.Rw Go.Proofs

def chg9 (r : PRec) : Bool := rightV r.cell.change && !decide (r.cell.change = zV)
def right9F (r : PRec) : Bool :=
  if r.kind = 1 then rightV r.view && checkE (-1) [r.entry] && sameR ⟨0, zV, r.cell, zE, r.n⟩ zR
  else if r.kind = 2 then rightV r.view && chg9 r && decide (0 ≤ r.cell.node ∧ r.cell.node ≤ 5) && sameR ⟨0, zV, zC, r.entry, r.n⟩ zR
  else if r.kind = 3 then rightV r.view && sameR ⟨0, zV, r.cell, r.entry, r.n⟩ zR
  else if r.kind = 4 ∨ r.kind = 6 then decide (1 ≤ r.n ∧ r.n ≤ 1000000) && sameR ⟨0, r.view, r.cell, r.entry, 0⟩ zR
  else if r.kind = 5 then rightV r.view && chg9 r && sameR ⟨0, zV, ⟨r.cell.node, zV⟩, r.entry, r.n⟩ zR
  else false
theorem sizeV_pos {v : PView} (h : rightV v = true) : 0 < sizeV v ↔ ¬ v = zV := by
  have e : sizeV v = (popN 64 v.add.toNat : Int) + popN 64 v.del.toNat := by unfold sizeV; rfl
  have h0 : 0 ≤ sizeV v := by rw [e]; omega
  have hz := sizeV_zero h
  obtain ⟨a, b⟩ := v
  constructor
  · rintro h1 h2
    cases h2
    have := hz.2 ⟨rfl, rfl⟩
    omega
  · intro h1
    have : ¬ sizeV ⟨a, b⟩ = 0 := fun h2 => h1 (by obtain ⟨h3, h4⟩ := hz.1 h2; simp at h3 h4; rw [h3, h4]; rfl)
    omega
theorem right9_eq (r : PRec) : right9F r = rightR r := by
  obtain ⟨k, v, ⟨cn, cc⟩, e, n⟩ := r
  rw [Bool.eq_iff_iff]
  unfold right9F rightR chg9
  by_cases k1 : k = 1
  · subst k1
    simp [sameR_iff, sameE_zero, zR, bareR, sameE_iff]
    constructor
    · rintro ⟨⟨h1, h2⟩, h3, h4⟩
      cases h3
      exact ⟨⟨⟨⟨⟨rfl, h4⟩, h1⟩, rightV_zero⟩, by omega, by omega⟩, h2⟩
    · rintro ⟨⟨⟨⟨⟨h3, h4⟩, h1⟩, _⟩, _⟩, h2⟩
      exact ⟨⟨h1, h2⟩, h3, h4⟩
  by_cases k2 : k = 2
  · subst k2
    by_cases hc : rightV cc = true
    · have hp := sizeV_pos hc
      simp [sameR_iff, sameE_zero, zR, bareR, sameE_iff, hc, hp]
      constructor
      · rintro ⟨⟨⟨h1, h2⟩, h3, h4⟩, h5, h6⟩
        exact ⟨⟨⟨⟨h5, h6⟩, h1⟩, h3, by omega⟩, h2⟩
      · rintro ⟨⟨⟨⟨h5, h6⟩, h1⟩, h3, h4⟩, h2⟩
        exact ⟨⟨⟨h1, h2⟩, h3, by omega⟩, h5, h6⟩
    · simp [hc]
  by_cases k3 : k = 3
  · subst k3
    simp [sameR_iff, sameE_zero, zR, bareR, sameE_iff]
    constructor
    · rintro ⟨h1, h2, h3⟩
      cases h2
      exact ⟨⟨⟨⟨rfl, h3⟩, h1⟩, rightV_zero⟩, by omega, by omega⟩
    · rintro ⟨⟨⟨⟨h2, h3⟩, h1⟩, _⟩, _⟩
      exact ⟨h1, h2, h3⟩
  by_cases k46 : k = 4 ∨ k = 6
  · have k5 : ¬ k = 5 := by omega
    simp [sameR_iff, sameE_zero, zR, bareR, sameE_iff, k1, k2, k3, k5, k46]
    constructor
    · rintro ⟨h1, h2, h3, h4⟩
      cases h3
      cases h2
      exact ⟨⟨⟨⟨⟨by omega, rfl, rfl, h4⟩, rightV_zero⟩, rightV_zero⟩, by omega, by omega⟩, h1⟩
    · rintro ⟨⟨⟨⟨⟨_, h2, h3, h4⟩, _⟩, _⟩, _⟩, h1⟩
      exact ⟨h1, h2, h3, h4⟩
  by_cases k5 : k = 5
  · subst k5
    by_cases hc : rightV cc = true
    · have hp := sizeV_pos hc
      simp [sameR_iff, sameE_zero, zR, bareR, sameE_iff, hc, hp]
      constructor
      · rintro ⟨⟨h1, h2⟩, h3, h4⟩
        cases h3
        exact ⟨⟨⟨⟨rfl, h4⟩, h1⟩, by omega, by omega⟩, h2⟩
      · rintro ⟨⟨⟨⟨rfl, h4⟩, h1⟩, _⟩, h2⟩
        exact ⟨⟨h1, h2⟩, rfl, h4⟩
    · simp [hc]
  · have : ¬ (1 ≤ k ∧ k ≤ 6) := by omega
    simp only [if_neg k1, if_neg k2, if_neg k3, if_neg k46, if_neg k5, decide_eq_false this, Bool.false_and]
end Go.Proofs.YtjbbfiagijjdoaaGreat

/- Contracts: records, told otherwise: alike, Same. No condition. -/
set_option linter.unusedSimpArgs false
set_option linter.unusedVariables false
set_option maxRecDepth 10000
namespace Go.Proofs.YtjbbfiagijjdoaaGreat
open Go Go.Rw Go.Proofs
-- a goal is never to be run by the elaborator
attribute [local irreducible] awp aops aop aopsE aeff

theorem alike9_spec (a b : PRec) (ha : fitR a) (hb : fitR b) : ASpec Tryz.prog 78 [.agg (eRc a), .agg (eRc b)] (· = .v (.bool (sameR a b))) := by
  refine ASpec.of_awp Tryz.func78 (by kernel_rfl) rfl (by rw [Tryz.results78]) Tryz.ntmps78 ?_
  simp -implicitDefEqProofs [eRc]
  refine allocK.intro (fun b1 hb1 => ?_)
  simp -implicitDefEqProofs
  refine allocK.intro (fun b2 hb2 => ?_)
  have hbb : ¬ b1 = b2 := by rintro rfl; simp at hb2
  have hbb' : ¬ b2 = b1 := fun h => hbb h.symm
  by_cases h1 : a.kind = b.kind
  · by_cases h2 : a.view.add = b.view.add ∧ a.view.del = b.view.del
    · obtain ⟨h2, h3⟩ := h2
      by_cases h4 : a.cell.node = b.cell.node ∧ a.cell.change.add = b.cell.change.add ∧ a.cell.change.del = b.cell.change.del
      · obtain ⟨h4, h5, h6⟩ := h4
        by_cases h7 : a.n = b.n
        · simp -implicitDefEqProofs [hbb, hbb', h1, h2, h3, h4, h5, h6, h7]
          refine CallK.with (alike7_spec a.entry b.entry ha hb) (by simp [eE]) ?_
          simp -implicitDefEqProofs [hbb, hbb', h1, h2, h3, h4, h5, h6, h7, sameR]
        · simp -implicitDefEqProofs [hbb, hbb', h1, h2, h3, h4, h5, h6, h7, sameR]
      · have h4' : sameR a b = false := by
          by_cases q : a.cell.node = b.cell.node
          · by_cases q2 : a.cell.change.add = b.cell.change.add
            · have q3 : ¬ a.cell.change.del = b.cell.change.del := fun q3 => h4 ⟨q, q2, q3⟩
              simp [sameR, q3]
            · simp [sameR, q2]
          · simp [sameR, q]
        have h4'' : (a.cell.node == b.cell.node && (a.cell.change.add == b.cell.change.add && a.cell.change.del == b.cell.change.del)) = false := by simpa using h4
        simp -implicitDefEqProofs [hbb, hbb', h1, h2, h3, h4', h4'']
    · have h4' : sameR a b = false := by
        by_cases q : a.view.add = b.view.add
        · have q3 : ¬ a.view.del = b.view.del := fun q3 => h2 ⟨q, q3⟩
          simp [sameR, q3]
        · simp [sameR, q]
      have h4'' : (a.view.add == b.view.add && a.view.del == b.view.del) = false := by simpa using h2
      simp -implicitDefEqProofs [hbb, hbb', h1, h4', h4'']
  · simp -implicitDefEqProofs [hbb, hbb', h1, sameR]

def S9I (a b : List PRec) (t : Nat → AV) (_ : Nat → Option (List AV)) : Prop := ∃ k : Nat, t 0 = .sl .no (eRs a) ∧ t 1 = .sl .no (eRs b) ∧ t 12 = eI a.length ∧ t 13 = eI k ∧ k ≤ a.length ∧ sameRs (a.drop k) (b.drop k) = sameRs a b
theorem fitR_zero : fitR zR := by simp [fitR, zR, zE]
theorem seq_cut {P : Program} {x y : Code} {n : Nat} {t : Nat → AV} {h : Nat → Option (List AV)} {Q : AExit → ASt → Prop} (M : (Nat → AV) → (Nat → Option (List AV)) → Prop) (hx : awp P x (cutQ M n Q) ⟨n, t, h⟩)
    (hy : ∀ t h, M t h → awp P y Q ⟨n, t, h⟩) : awp P (.seq x y) Q ⟨n, t, h⟩ := by
  rw [awp_seqQ]
  exact awp_mono x (cutQ_use hy) hx
theorem chg_ne (v : PView) : (!v.add == 0 || !v.del == 0) = !decide (v = zV) := by
  obtain ⟨a, b⟩ := v
  by_cases h1 : a = 0 <;> by_cases h2 : b = 0 <;> simp [zV, h1, h2]
def R9N (r : PRec) (b1 : Nat) (t : Nat → AV) (h : Nat → Option (List AV)) : Prop := t 1 = .ptr b1 0 ∧ h b1 = some (eRc r) ∧ t 3 = .v (.bool (rightV r.view)) ∧ t 4 = .v (.bool (chg9 r)) ∧ t 5 = .v (.bool (decide (0 ≤ r.cell.node ∧ r.cell.node ≤ 5)))
def R9O (r : PRec) (b1 : Nat) (t : Nat → AV) (h : Nat → Option (List AV)) : Prop := t 1 = .ptr b1 0 ∧ h b1 = some (eRc r) ∧ t 3 = .v (.bool (rightV r.view)) ∧ t 4 = .v (.bool (chg9 r)) ∧ t 5 = .v (.bool (decide (0 ≤ r.cell.node ∧ r.cell.node ≤ 5))) ∧ t 6 = .v (.bool (decide (1 ≤ r.n ∧ r.n ≤ 1000000)))
def R9M (r : PRec) (b1 : Nat) (t : Nat → AV) (h : Nat → Option (List AV)) : Prop := t 1 = .ptr b1 0 ∧ h b1 = some (eRc r) ∧ t 3 = .v (.bool (rightV r.view)) ∧ t 4 = .v (.bool (chg9 r))
theorem right9_spec (r : PRec) (hf : fitR r) : ASpec Tryz.prog 49 [.agg (eRc r)] (· = .v (.bool (right9F r))) := by
  refine ASpec.of_awp Tryz.func49 (by kernel_rfl) rfl (by rw [Tryz.results49]) Tryz.ntmps49 ?_
  simp -implicitDefEqProofs [eRc]
  refine allocK.intro (fun b1 hb1 => ?_)
  simp -implicitDefEqProofs
  refine regionK.cut (R9M r b1) ?_ ?_
  · refine regionK.intro 15 follows_mixed (by kernel_rfl) ?_
    simp -implicitDefEqProofs
    refine CallQ.with (right4_spec r.view) (by simp [eV]) ?_
    simp -implicitDefEqProofs
    refine CallQ.with (right4_spec r.cell.change) (by simp [eV]) ?_
    cases hc : rightV r.cell.change
    · simp -implicitDefEqProofs
      exact ⟨by simp, by simp [eRc], by simp, by simp [chg9, hc]⟩
    · simp -implicitDefEqProofs
      exact ⟨by simp, by simp [eRc], by simp, by simp [chg9, hc]; exact chg_ne _⟩
  · rintro t h ⟨g1, gh, g3, g4⟩
    refine seq_cut (R9N r b1) ?_ ?_
    · rw [eRc] at gh
      by_cases n1 : 0 ≤ r.cell.node
      · simp -implicitDefEqProofs [g1, gh, n1]
        exact ⟨by simp [g1], by simp [gh, eRc], by simp [g3], by simp [g4], by simp [n1]⟩
      · simp -implicitDefEqProofs [g1, gh, n1]
        exact ⟨by simp [g1], by simp [gh, eRc], by simp [g3], by simp [g4], by simp [n1]⟩
    rintro t h ⟨g1, gh, g3, g4, g5⟩
    refine seq_cut (R9O r b1) ?_ ?_
    · rw [eRc] at gh
      by_cases n1 : 1 ≤ r.n
      · simp -implicitDefEqProofs [g1, gh, n1]
        exact ⟨by simp [g1], by simp [gh, eRc], by simp [g3], by simp [g4], by simp [g5], by simp [n1]⟩
      · simp -implicitDefEqProofs [g1, gh, n1]
        exact ⟨by simp [g1], by simp [gh, eRc], by simp [g3], by simp [g4], by simp [g5], by simp [n1]⟩
    rintro t h ⟨g1, gh, g3, g4, g5, g6⟩
    rw [eRc] at gh
    simp -implicitDefEqProofs [g1, gh, g3, g4, g5, g6]
    refine allocK.intro (fun b2 hb2 => ?_)
    have n1 : ¬ b1 = b2 := by rintro rfl; rw [gh] at hb2; simp at hb2
    have n1' : ¬ b2 = b1 := fun h => n1 h.symm
    by_cases k1 : r.kind = 1
    · have e : right9F r = (rightV r.view && checkE (-1) [r.entry] && sameR ⟨0, zV, r.cell, zE, r.n⟩ zR) := by unfold right9F; rw [if_pos k1]
      rw [e]
      cases hv : rightV r.view
      · simp -implicitDefEqProofs [g1, gh, g3, g4, g5, g6, n1, n1', k1, hv]
      · simp -implicitDefEqProofs [g1, gh, g3, g4, g5, g6, n1, n1', k1, hv]
        refine CallK.with (check7_spec [r.entry]) (by simp [eEs, eE]) ?_
        cases hE : checkE (-1) [r.entry]
        · simp -implicitDefEqProofs [g1, gh, g3, g4, g5, g6, n1, n1', k1, hv]
        · simp -implicitDefEqProofs [g1, gh, g3, g4, g5, g6, n1, n1', k1, hv]
          refine CallK.with (alike9_spec ⟨0, zV, r.cell, zE, r.n⟩ zR (by first | exact hf | exact fitR_zero) fitR_zero) (by simp [eRc, zR, zV, zC, zE]) ?_
          simp -implicitDefEqProofs
    by_cases k2 : r.kind = 2
    · have e : right9F r = (rightV r.view && chg9 r && decide (0 ≤ r.cell.node ∧ r.cell.node ≤ 5) && sameR ⟨0, zV, zC, r.entry, r.n⟩ zR) := by unfold right9F; rw [if_neg k1, if_pos k2]
      rw [e]
      cases hv : rightV r.view
      · simp -implicitDefEqProofs [g1, gh, g3, g4, g5, g6, n1, n1', k1, k2, hv]
      cases hc : chg9 r
      · simp -implicitDefEqProofs [g1, gh, g3, g4, g5, g6, n1, n1', k1, k2, hv, hc]
      by_cases hn : 0 ≤ r.cell.node ∧ r.cell.node ≤ 5
      · rw [decide_eq_true hn] at g5 ⊢
        simp -implicitDefEqProofs [g1, gh, g3, g4, g5, g6, n1, n1', k1, k2, hv, hc]
        refine CallK.with (alike9_spec ⟨0, zV, zC, r.entry, r.n⟩ zR (by first | exact hf | exact fitR_zero) fitR_zero) (by simp [eRc, zR, zV, zC, zE]) ?_
        simp -implicitDefEqProofs
      · rw [decide_eq_false hn] at g5 ⊢
        simp -implicitDefEqProofs [g1, gh, g3, g4, g5, g6, n1, n1', k1, k2, hv, hc]
    by_cases k3 : r.kind = 3
    · have e : right9F r = (rightV r.view && sameR ⟨0, zV, r.cell, r.entry, r.n⟩ zR) := by unfold right9F; rw [if_neg k1, if_neg k2, if_pos k3]
      rw [e]
      cases hv : rightV r.view
      · simp -implicitDefEqProofs [g1, gh, g3, g4, g5, g6, n1, n1', k1, k2, k3, hv]
      · simp -implicitDefEqProofs [g1, gh, g3, g4, g5, g6, n1, n1', k1, k2, k3, hv]
        refine CallK.with (alike9_spec ⟨0, zV, r.cell, r.entry, r.n⟩ zR (by first | exact hf | exact fitR_zero) fitR_zero) (by simp [eRc, zR, zV, zC, zE]) ?_
        simp -implicitDefEqProofs
    by_cases k4 : r.kind = 4
    · have e : right9F r = (decide (1 ≤ r.n ∧ r.n ≤ 1000000) && sameR ⟨0, r.view, r.cell, r.entry, 0⟩ zR) := by unfold right9F; rw [if_neg k1, if_neg k2, if_neg k3, if_pos (.inl k4)]
      rw [e]
      by_cases hn : 1 ≤ r.n ∧ r.n ≤ 1000000
      · rw [decide_eq_true hn] at g6 ⊢
        simp -implicitDefEqProofs [g1, gh, g3, g4, g5, g6, n1, n1', k1, k2, k3, k4]
        refine CallK.with (alike9_spec ⟨0, r.view, r.cell, r.entry, 0⟩ zR (by first | exact hf | exact fitR_zero) fitR_zero) (by simp [eRc, zR, zV, zC, zE]) ?_
        simp -implicitDefEqProofs
      · rw [decide_eq_false hn] at g6 ⊢
        simp -implicitDefEqProofs [g1, gh, g3, g4, g5, g6, n1, n1', k1, k2, k3, k4]
    by_cases k6 : r.kind = 6
    · have e : right9F r = (decide (1 ≤ r.n ∧ r.n ≤ 1000000) && sameR ⟨0, r.view, r.cell, r.entry, 0⟩ zR) := by unfold right9F; rw [if_neg k1, if_neg k2, if_neg k3, if_pos (.inr k6)]
      rw [e]
      by_cases hn : 1 ≤ r.n ∧ r.n ≤ 1000000
      · rw [decide_eq_true hn] at g6 ⊢
        simp -implicitDefEqProofs [g1, gh, g3, g4, g5, g6, n1, n1', k1, k2, k3, k4, k6]
        refine CallK.with (alike9_spec ⟨0, r.view, r.cell, r.entry, 0⟩ zR (by first | exact hf | exact fitR_zero) fitR_zero) (by simp [eRc, zR, zV, zC, zE]) ?_
        simp -implicitDefEqProofs
      · rw [decide_eq_false hn] at g6 ⊢
        simp -implicitDefEqProofs [g1, gh, g3, g4, g5, g6, n1, n1', k1, k2, k3, k4, k6]
    by_cases k5 : r.kind = 5
    · have e : right9F r = (rightV r.view && chg9 r && sameR ⟨0, zV, ⟨r.cell.node, zV⟩, r.entry, r.n⟩ zR) := by unfold right9F; rw [if_neg k1, if_neg k2, if_neg k3, if_neg (by omega), if_pos k5]
      rw [e]
      cases hv : rightV r.view
      · simp -implicitDefEqProofs [g1, gh, g3, g4, g5, g6, n1, n1', k1, k2, k3, k4, k6, k5, hv]
      cases hc : chg9 r
      · simp -implicitDefEqProofs [g1, gh, g3, g4, g5, g6, n1, n1', k1, k2, k3, k4, k6, k5, hv, hc]
      · simp -implicitDefEqProofs [g1, gh, g3, g4, g5, g6, n1, n1', k1, k2, k3, k4, k6, k5, hv, hc]
        refine CallK.with (alike9_spec ⟨0, zV, ⟨r.cell.node, zV⟩, r.entry, r.n⟩ zR (by first | exact hf | exact fitR_zero) fitR_zero) (by simp [eRc, zR, zV, zC, zE]) ?_
        simp -implicitDefEqProofs
    have e : right9F r = false := by unfold right9F; rw [if_neg k1, if_neg k2, if_neg k3, if_neg (by omega), if_neg k5]
    rw [e]
    simp -implicitDefEqProofs [g1, gh, g3, g4, g5, g6, n1, n1', k1, k2, k3, k4, k6, k5]
end Go.Proofs.YtjbbfiagijjdoaaGreat

/- Contracts: records' bytes, told otherwise. No condition. -/
set_option linter.unusedSimpArgs false
set_option linter.unusedVariables false
set_option maxRecDepth 10000
namespace Go.Proofs.YtjbbfiagijjdoaaGreat
open Go Go.Rw Go.Proofs

theorem right9r_spec (r : PRec) (hf : fitR r) : ASpec Tryz.prog 49 [.agg (eRc r)] (· = .v (.bool (rightR r))) := by
  rw [← right9_eq]; exact right9_spec r hf
end Go.Proofs.YtjbbfiagijjdoaaGreat

/- Contracts: the laws on replicas, what is alive and what can be. No condition. -/
set_option linter.unusedSimpArgs false
set_option linter.unusedVariables false
set_option maxRecDepth 10000
namespace Go.Proofs.YtjbbfiagijjdoaaGreat
open Go Go.Rw Go.Proofs
-- a goal is never to be run by the elaborator
attribute [local irreducible] awp aops aop aopsE aeff

def v7 : PView := ⟨7, 0⟩
def putM (n : Int) : PMsg := ⟨3, 1, 2, 1, 1, v7, [], [⟨1, ⟨n, 0⟩, 4616189618054758400⟩]⟩
theorem rightV_v7 : rightV v7 = true := by decide
theorem take_all {l : List PRec} {k : Nat} {x : PRec} (hx : l[k]? = some x) (hp : rightR x = true) (hn : ∀ y ∈ l.take k, rightR y = true) : ∀ y ∈ l.take (k + 1), rightR y = true := by
  intro y hy
  rw [List.take_add_one, hx] at hy
  rcases List.mem_append.1 hy with h | h
  · exact hn y h
  · simp at h; rw [h]; exact hp
def R13I (l : List PRec) (b1 : Nat) (q : PMsg) (me : Int) (t : Nat → AV) (h : Nat → Option (List AV)) : Prop := ∃ k : Nat, t 0 = eI me ∧ t 5 = .ptr b1 0 ∧ t 9 = .sl .no (eRs l) ∧ t 10 = eI l.length ∧ t 11 = eI k ∧ k ≤ l.length ∧ h b1 = some (eM q) ∧ ∀ r ∈ l.take k, rightR r = true
def R13M (l : List PRec) (b1 : Nat) (q : PMsg) (me : Int) (t : Nat → AV) (h : Nat → Option (List AV)) : Prop := t 0 = eI me ∧ t 5 = .ptr b1 0 ∧ h b1 = some (eM q) ∧ ∀ r ∈ l, rightR r = true
end Go.Proofs.YtjbbfiagijjdoaaGreat

/- Contracts: the views seen of a state in which nothing was written; what is alive of fold. No condition. -/
set_option linter.unusedSimpArgs false
set_option linter.unusedVariables false
set_option maxRecDepth 10000
namespace Go.Proofs.YtjbbfiagijjdoaaGreat
open Go Go.Rw Go.Proofs
-- a goal is never to be run by the elaborator
attribute [local irreducible] awp aops aop aopsE aeff

theorem ins1_spec (v : PView) (g : FuncId) : ASpec Tryz.prog 177 [.sl .no [eV v], eI 0, eI 1, .fn g []] (fun _ => True) := by
  refine ASpec.of_awp Tryz.func177 (by kernel_rfl) rfl (by rw [Tryz.results177]) Tryz.ntmps177 ?_
  have hw : IntKind.i64.wrap 1 = 1 := by decide
  simp -implicitDefEqProofs [hw]
  refine loopK.intro (fun t h => t 8 = eI 1 ∧ t 2 = eI 1) (fun _ => 0) ?_ ?_
  · simp
  rintro t hh ⟨g8, g2⟩
  simp -implicitDefEqProofs [g8, g2]
theorem pdq1_spec (v : PView) (g : FuncId) (lim : Int) : ASpec Tryz.prog 144 [.sl .no [eV v], eI 0, eI 1, eI lim, .fn g []] (fun _ => True) := by
  refine ASpec.of_awp Tryz.func144 (by kernel_rfl) rfl (by rw [Tryz.results144]) Tryz.ntmps144 ?_
  have hw : IntKind.i64.wrap 1 = 1 := by decide
  simp -implicitDefEqProofs
  refine loopK.intro (fun t h => t 0 = .sl .no [eV v] ∧ t 1 = eI 0 ∧ t 2 = eI 1 ∧ t 4 = .fn g []) (fun _ => 0) ?_ ?_
  · simp
  rintro t hh ⟨g0, g1, g2, g4⟩
  simp -implicitDefEqProofs [g0, g1, g2, g4, hw]
  refine CallK.via (ins1_spec v g) (by simp) ?_
  rintro r -
  simp -implicitDefEqProofs
theorem sort1_spec (v : PView) (g : FuncId) : ASpec Tryz.prog 82 [.sl .no [eV v], .fn g []] (fun _ => True) := by
  refine ASpec.of_awp Tryz.func82 (by kernel_rfl) rfl (by rw [Tryz.results82]) Tryz.ntmps82 ?_
  have hw : IntKind.u64.wrap 1 = 1 := by decide
  simp -implicitDefEqProofs [hw]
  refine CallK.with (bitsLen_spec 1 (by omega)) (by simp) ?_
  simp -implicitDefEqProofs
  refine CallK.via (pdq1_spec v g _) (by simp; rfl) ?_
  rintro r -
  simp -implicitDefEqProofs
theorem compact1_spec (v : PView) : ASpec Tryz.prog 85 [.sl .no [eV v]] (· = .sl .no [eV v]) := by
  refine ASpec.of_awp Tryz.func85 (by kernel_rfl) rfl (by rw [Tryz.results85]) Tryz.ntmps85 ?_
  simp -implicitDefEqProofs
theorem seen1_spec (v : PView) (i a : Int) : ASpec Tryz.prog 34 [.agg (eSt ⟨[], [], [], v, i, a⟩)] (fun r => ∃ tag, r = .sl tag [eV v]) := by
  refine ASpec.of_awp Tryz.func34 (by kernel_rfl) rfl (by rw [Tryz.results34]) Tryz.ntmps34 ?_
  simp -implicitDefEqProofs [eSt]
  refine allocK.intro (fun b1 hb1 => ?_)
  simp -implicitDefEqProofs
  refine bsK.std ?_
  simp -implicitDefEqProofs
  refine loopK.post (fun t h => t 3 = .sl .full [eV v] ∧ t 1 = .ptr b1 0 ∧ t 15 = eI 0 ∧ t 16 = eI 0 ∧ h b1 = some (eSt ⟨[], [], [], v, i, a⟩)) (fun _ => 0) (fun t h => t 3 = .sl .full [eV v] ∧ t 1 = .ptr b1 0 ∧ h b1 = some (eSt ⟨[], [], [], v, i, a⟩)) ?_ ?_ ?_
  · simp [eV, eSt]
  · rintro t hh ⟨g3, g1, g15, g16, c1⟩
    simp -implicitDefEqProofs [g15, g16]
    exact ⟨g3, g1, c1⟩
  rintro t hh ⟨g3, g1, c1⟩
  rw [eSt] at c1
  simp -implicitDefEqProofs [g1, c1]
  refine loopK.post (fun t h => t 3 = .sl .full [eV v] ∧ t 1 = .ptr b1 0 ∧ t 28 = eI 0 ∧ t 29 = eI 0 ∧ h b1 = some (eSt ⟨[], [], [], v, i, a⟩)) (fun _ => 0) (fun t h => t 3 = .sl .full [eV v] ∧ t 1 = .ptr b1 0 ∧ h b1 = some (eSt ⟨[], [], [], v, i, a⟩)) ?_ ?_ ?_
  · simp [g3, g1, c1, eSt]
  · rintro t hh ⟨g3, g1, g15, g16, c1⟩
    simp -implicitDefEqProofs [g15, g16]
    exact ⟨g3, g1, c1⟩
  rintro t hh ⟨g3, g1, c1⟩
  rw [eSt] at c1
  simp -implicitDefEqProofs [g1, c1]
  refine loopK.post (fun t h => t 3 = .sl .full [eV v] ∧ t 41 = eI 0 ∧ t 42 = eI 0) (fun _ => 0) (fun t h => t 3 = .sl .full [eV v]) ?_ ?_ ?_
  · simp [g3]
  · rintro t hh ⟨g3, g15, g16⟩
    simp -implicitDefEqProofs [g15, g16]
    exact g3
  rintro t hh g3
  simp -implicitDefEqProofs [g3]
  refine CallK.via (sort1_spec v 83) (by simp) ?_
  rintro r -
  simp -implicitDefEqProofs [g3]
  refine CallK.with (compact1_spec v) (by simp) ?_
  simp -implicitDefEqProofs
theorem first_spec : ASpec Tryz.prog 63 [] (· = .agg (eV v7)) := by
  refine ASpec.of_awp Tryz.func63 (by kernel_rfl) rfl (by rw [Tryz.results63]) Tryz.ntmps63 ?_
  simp -implicitDefEqProofs
  refine allocK.intro (fun b1 hb1 => ?_)
  simp -implicitDefEqProofs [eV, v7]
def aliveL : List PRec := [⟨4, zV, zC, zE, 5⟩, ⟨4, zV, zC, zE, 3⟩, ⟨3, ⟨15, 0⟩, zC, zE, 0⟩, ⟨3, ⟨7, 1⟩, zC, zE, 0⟩]
theorem alive_right : ∀ r ∈ aliveL, rightR r = true := by decide
theorem alive_fold : foldS v7 aliveL = ⟨[], [], [], ⟨15, 0⟩, 0, 5⟩ := by
  have h : withinV ⟨7, 0⟩ ⟨15, 0⟩ = true := by decide
  have h2 : withinV ⟨15, 0⟩ ⟨7, 1⟩ = false := by decide
  simp [foldS, aliveL, applyS, newS, v7, h, h2]
  try omega
theorem alive12_spec : ASpec Tryz.prog 28 [] (· = .v (.bool true)) := by
  refine ASpec.of_awp Tryz.func28 (by kernel_rfl) rfl (by rw [Tryz.results28]) Tryz.ntmps28 ?_
  simp -implicitDefEqProofs
  refine CallK.eq first_spec ?_
  have hf := fold_spec v7 aliveL rightV_v7 alive_right (by decide)
  rw [alive_fold] at hf
  simp -implicitDefEqProofs [eV, v7]
  refine CallK.with hf (by simp [eV, v7, aliveL, eRs, eRc, zV, zC, zE]) ?_
  simp -implicitDefEqProofs [eSt]
  refine allocK.intro (fun b1 hb1 => ?_)
  simp -implicitDefEqProofs
  refine CallK.via (seen1_spec ⟨15, 0⟩ 0 5) (by simp [eSt]) ?_
  rintro _ ⟨tag, rfl⟩
  simp -implicitDefEqProofs
end Go.Proofs.YtjbbfiagijjdoaaGreat

/- The laws FoldNames and FoldTwice, walked. No condition. -/
set_option linter.unusedSimpArgs false
set_option linter.unusedVariables false
set_option maxRecDepth 10000
namespace Go.Proofs.YtjbbfiagijjdoaaGreat
open Go Go.Rw Go.Proofs
-- a goal is never to be run by the elaborator
attribute [local irreducible] awp aops aop aopsE aeff

def R12I (l : List PRec) (b1 : Nat) (v : PView) (t : Nat → AV) (h : Nat → Option (List AV)) : Prop := ∃ k : Nat, t 2 = .ptr b1 0 ∧ t 7 = .sl .no (eRs l) ∧ t 8 = eI l.length ∧ t 9 = eI k ∧ k ≤ l.length ∧ h b1 = some (eV v) ∧ ∀ r ∈ l.take k, rightR r = true
def R12M (l : List PRec) (b1 : Nat) (v : PView) (t : Nat → AV) (h : Nat → Option (List AV)) : Prop := t 2 = .ptr b1 0 ∧ h b1 = some (eV v) ∧ ∀ r ∈ l, rightR r = true
theorem right12_spec (v : PView) (l : List PRec) (hf : ∀ r ∈ l, fitR r) (hl : l.length ≤ 1000000000) : ASpec Tryz.prog 29 [.agg (eV v), .sl .no (eRs l)] (· = .v (.bool (l.all rightR && rightV v))) := by
  refine ASpec.of_awp Tryz.func29 (by kernel_rfl) rfl (by rw [Tryz.results29]) Tryz.ntmps29 ?_
  simp -implicitDefEqProofs [eV]
  refine allocK.intro (fun b1 hb1 => ?_)
  simp -implicitDefEqProofs
  intro _
  refine loopK.post (R12I l b1 v) (fun t => l.length - natOf (t 9)) (R12M l b1 v) ?_ ?_ ?_
  · exact ⟨0, by simp, by simp, by simp, by simp, by omega, by simp [eV], by simp⟩
  · rintro t hh ⟨k, g5, g9, g10, g11, hk, e1, hr⟩
    by_cases hlt : k < l.length
    · have hlt' : (k : Int) < (l.length : Int) := by omega
      have hw : IntKind.i64.wrap ((k : Int) + 1) = ((k + 1 : Nat) : Int) := by rw [w64 (by omega) (by omega)]; omega
      obtain ⟨r, hx⟩ : ∃ r, l[k]? = some r := ⟨l[k], by simp [hlt]⟩
      have hrs := right9r_spec r (hf r (List.mem_of_getElem? hx))
      simp -implicitDefEqProofs [g9, g10, g11, hlt', hx, eRc]
      refine allocK.intro (fun b2 hb2 => ?_)
      have n12 : ¬ b1 = b2 := by rintro rfl; rw [e1] at hb2; simp at hb2
      have n21 : ¬ b2 = b1 := fun h => n12 h.symm
      simp -implicitDefEqProofs [n12, n21]
      refine CallK.with hrs (by simp [eRc]) ?_
      cases hi : rightR r
      · have hall : l.all rightR = false := by
          rw [Bool.eq_false_iff]
          intro h
          rw [List.all_eq_true] at h
          have := h r (List.mem_of_getElem? hx)
          rw [hi] at this; simp at this
        simp -implicitDefEqProofs [hall]
      · simp -implicitDefEqProofs [g11, hw, n12, n21]
        exact ⟨⟨k + 1, by simp [g5], by simp [g9], by simp [g10], by simp, by omega, by simp [n12, e1], take_all hx hi hr⟩, by omega⟩
    · have hlt' : ¬ (k : Int) < (l.length : Int) := by omega
      rw [List.take_of_length_le (by omega)] at hr
      simp -implicitDefEqProofs [g10, g11, hlt']
      exact ⟨g5, e1, hr⟩
  rintro t hh ⟨g5, e1, hr⟩
  rw [eV] at e1
  have hall : l.all rightR = true := by rw [List.all_eq_true]; exact hr
  simp -implicitDefEqProofs [g5, e1, hall]
  refine CallK.with (right4_spec v) (by simp [eV]) ?_
  simp -implicitDefEqProofs [hall]
theorem right12_of {v : PView} {l : List PRec} (h : (l.all rightR && rightV v) = true) : (∀ r ∈ l, rightR r = true) ∧ rightV v = true := by
  simp only [Bool.and_eq_true, List.all_eq_true] at h
  exact h
def TwI (l : List PRec) (s : PState) (b2 b3 : Nat) (t : Nat → AV) (h : Nat → Option (List AV)) : Prop := ∃ k : Nat, t 5 = .ptr b2 0 ∧ t 6 = .ptr b3 0 ∧ t 24 = .sl .no (eRs l) ∧ t 25 = eI l.length ∧ t 26 = eI k ∧ k ≤ l.length ∧ h b2 = some (eSt s) ∧ h b3 = some (eSt s)
def TwM (s : PState) (b2 b3 : Nat) (t : Nat → AV) (h : Nat → Option (List AV)) : Prop := t 5 = .ptr b2 0 ∧ t 6 = .ptr b3 0 ∧ h b2 = some (eSt s) ∧ h b3 = some (eSt s)
end Go.Proofs.YtjbbfiagijjdoaaGreat

/- The law FoldSeen. No condition. -/
set_option linter.unusedSimpArgs false
set_option linter.unusedVariables false
set_option maxRecDepth 10000
namespace Go.Proofs.YtjbbfiagijjdoaaGreat
open Go Go.Rw Go.Proofs
-- a goal is never to be run by the elaborator
attribute [local irreducible] awp aops aop aopsE aeff

def FsI (v : PView) (l : List PRec) (q : PView) (s : PState) (out : List PView) (b1 b2 b3 : Nat) (t : Nat → AV) (h : Nat → Option (List AV)) : Prop := ∃ k : Nat, t 1 = .sl .no (eRs l) ∧ t 3 = .ptr b1 0 ∧ t 5 = .ptr b2 0 ∧ t 7 = .ptr b3 0 ∧ (∃ tag, t 8 = .sl tag (eVs out)) ∧ t 9 = .v (.bool (decide (q ∈ out.take k))) ∧ t 38 = .sl .no (eVs out) ∧ t 39 = eI out.length ∧ t 40 = eI k ∧ k ≤ out.length ∧ h b1 = some (eV v) ∧ h b2 = some (eV q) ∧ h b3 = some (eSt s)
def FsM (q : PView) (s : PState) (out : List PView) (b2 b3 : Nat) (t : Nat → AV) (h : Nat → Option (List AV)) : Prop := t 5 = .ptr b2 0 ∧ t 7 = .ptr b3 0 ∧ t 9 = .v (.bool (decide (q ∈ out))) ∧ h b2 = some (eV q) ∧ h b3 = some (eSt s)
def FsJ (v : PView) (l : List PRec) (q : PView) (s : PState) (out : List PView) (k : Nat) (x : PView) (b1 b2 b3 b4 : Nat) (t : Nat → AV) (h : Nat → Option (List AV)) : Prop := ∃ j : Nat, t 1 = .sl .no (eRs l) ∧ t 3 = .ptr b1 0 ∧ t 5 = .ptr b2 0 ∧ t 7 = .ptr b3 0 ∧ (∃ tag, t 8 = .sl tag (eVs out)) ∧ t 9 = .v (.bool (decide (q ∈ out.take (k + 1)))) ∧ t 38 = .sl .no (eVs out) ∧ t 39 = eI out.length ∧ t 40 = eI k ∧ t 10 = eI k ∧ t 11 = .ptr b4 0 ∧ t 12 = .v (.bool (knownV v (l.take j) x)) ∧ t 54 = .sl .no (eRs l) ∧ t 55 = eI l.length ∧ t 56 = eI j ∧ j ≤ l.length ∧ h b1 = some (eV v) ∧ h b2 = some (eV q) ∧ h b3 = some (eSt s) ∧ h b4 = some (eV x)
def FsN (v : PView) (l : List PRec) (q : PView) (s : PState) (out : List PView) (k : Nat) (x : PView) (b1 b2 b3 b4 : Nat) (t : Nat → AV) (h : Nat → Option (List AV)) : Prop := t 1 = .sl .no (eRs l) ∧ t 3 = .ptr b1 0 ∧ t 5 = .ptr b2 0 ∧ t 7 = .ptr b3 0 ∧ (∃ tag, t 8 = .sl tag (eVs out)) ∧ t 9 = .v (.bool (decide (q ∈ out.take (k + 1)))) ∧ t 38 = .sl .no (eVs out) ∧ t 39 = eI out.length ∧ t 40 = eI k ∧ t 10 = eI k ∧ t 11 = .ptr b4 0 ∧ t 12 = .v (.bool (knownV v l x)) ∧ h b1 = some (eV v) ∧ h b2 = some (eV q) ∧ h b3 = some (eSt s) ∧ h b4 = some (eV x)
theorem known_step {v : PView} {l : List PRec} {j : Nat} {r : PRec} {x : PView} (h : l[j]? = some r) : knownV v (l.take (j + 1)) x = (knownV v (l.take j) x || knownR x r) := by
  unfold knownV
  rw [List.take_add_one, h, List.any_append, Bool.or_assoc]
  simp
theorem mem_step {l : List PView} {k : Nat} {x q : PView} (h : l[k]? = some x) : decide (q ∈ l.take (k + 1)) = (decide (q ∈ l.take k) || decide (x = q)) := by
  rw [List.take_add_one, h]
  by_cases h1 : q ∈ l.take k
  · simp [h1]
  · by_cases h2 : x = q
    · simp [h1, h2]
    · have : ¬ q = x := fun h => h2 h.symm
      simp [h1, h2, this]
theorem veq (a b : PView) : (a.add == b.add && a.del == b.del) = decide (a = b) := by
  by_cases h : a = b
  · subst h; simp
  · cases h2 : (a.add == b.add && a.del == b.del)
    · simp [h]
    · simp at h2; exact absurd (view_eq.2 h2) h
theorem seen12_law (v : PView) (l : List PRec) (q : PView) (hf : ∀ r ∈ l, fitR r) (hl : l.length ≤ 1048576) : ASpec Tryz.prog 6 [.agg (eV v), .sl .no (eRs l), .agg (eV q)] (· = .v (.bool true)) := by
  refine ASpec.of_awp Tryz.func6 (by kernel_rfl) rfl (by rw [Tryz.results6]) Tryz.ntmps6 ?_
  simp -implicitDefEqProofs [eV]
  refine allocK.intro (fun b1 hb1 => ?_)
  simp -implicitDefEqProofs
  refine allocK.intro (fun b2 hb2 => ?_)
  have n12 : ¬ b1 = b2 := by rintro rfl; simp at hb2
  have n21 : ¬ b2 = b1 := fun h => n12 h.symm
  simp -implicitDefEqProofs [n12, n21]
  refine CallK.eq alive12_spec ?_
  simp -implicitDefEqProofs [n12, n21]
  intro _
  by_cases h60 : 60 < l.length
  · have h60' : (60 : Int) < (l.length : Int) := by omega
    simp -implicitDefEqProofs [n12, n21, h60, h60']
  have h60' : ¬ (60 : Int) < (l.length : Int) := by omega
  simp -implicitDefEqProofs [n12, n21, h60, h60']
  refine CallK.with (right12_spec v l hf (by omega)) (by simp [eV]) ?_
  cases hr : (l.all rightR && rightV v)
  · simp -implicitDefEqProofs
  obtain ⟨hr1, hv⟩ := right12_of hr
  simp -implicitDefEqProofs [n12, n21]
  refine CallK.with (right4_spec q) (by simp [eV]) ?_
  cases hq : rightV q
  · simp -implicitDefEqProofs
  have hfold := fold_spec v l hv hr1 (by omega)
  have hok := okT_fold hv hr1 l.length (Nat.le_refl _)
  rw [List.take_length] at hok
  have hall := all_right hok
  have hal := all_len hok
  have hseen := seen_is (foldS v l) hall (by omega)
  have hSO := seenV_ok hall
  have hkn := seen_known hv hr1
  have hnot := fun h => seen_not hok hq h
  have hol := seen_len (foldS v l)
  generalize foldS v l = s at *
  generalize seenV s = out at *
  simp -implicitDefEqProofs [n12, n21]
  refine CallK.with hfold (by simp [eV]) ?_
  simp -implicitDefEqProofs [eSt]
  refine allocK.intro (fun b3 hb3 => ?_)
  have n13 : ¬ b1 = b3 := by rintro rfl; simp [n12] at hb3
  have n31 : ¬ b3 = b1 := fun h => n13 h.symm
  have n23 : ¬ b2 = b3 := by rintro rfl; simp at hb3
  have n32 : ¬ b3 = b2 := fun h => n23 h.symm
  simp -implicitDefEqProofs [n12, n21, n13, n31, n23, n32]
  refine CallK.via hseen (by simp [eSt]) ?_
  rintro _ ⟨tag, rfl⟩
  simp -implicitDefEqProofs [n12, n21, n13, n31, n23, n32]
  intro _
  refine loopK.post (FsI v l q s out b1 b2 b3) (fun t => out.length - natOf (t 40)) (FsM q s out b2 b3) ?_ ?_ ?_
  · exact ⟨0, by simp, by simp, by simp, by simp, ⟨_, by simp; rfl⟩, by simp, by simp, by simp, by simp, by omega, by simp [n12, n21, n13, n31, n23, n32, eV], by simp [n12, n21, n13, n31, n23, n32, eV], by simp [n12, n21, n13, n31, n23, n32, eSt]⟩
  · clear hb1 hb2 hb3
    rintro t hh ⟨k, g1, g3, g5, g7, ⟨tag, g8⟩, g9, g38, g39, g40, hk, c1, c2, c3⟩
    by_cases hlt : k < out.length
    · have hlt' : (k : Int) < (out.length : Int) := by omega
      have hw : IntKind.i64.wrap ((k : Int) + 1) = ((k + 1 : Nat) : Int) := by rw [w64 (by omega) (by omega)] <;> omega
      obtain ⟨x, hx⟩ : ∃ x, out[k]? = some x := ⟨out[k], by simp [hlt]⟩
      have hxo : x ∈ out := List.mem_of_getElem? hx
      have hxr := hall x ((hSO.2 x).1 hxo)
      have hxk := hkn x ((hSO.2 x).1 hxo)
      have hms := mem_step (q := q) hx
      have hm40 : natOf (t 40) = k := by rw [g40]; simp
      rw [hm40]
      have c1' := c1
      have c2' := c2
      rw [eV] at c1' c2'
      simp -implicitDefEqProofs [g38, g39, g40, hlt', hx, eV]
      refine allocK.intro (fun b4 hb4 => ?_)
      have n14 : ¬ b1 = b4 := by rintro rfl; rw [c1] at hb4; simp at hb4
      have n41 : ¬ b4 = b1 := fun h => n14 h.symm
      have n24 : ¬ b2 = b4 := by rintro rfl; rw [c2] at hb4; simp at hb4
      have n42 : ¬ b4 = b2 := fun h => n24 h.symm
      have n34 : ¬ b3 = b4 := by rintro rfl; rw [c3] at hb4; simp at hb4
      have n43 : ¬ b4 = b3 := fun h => n34 h.symm
      have e9 : (decide (q ∈ out.take k) || (x.add == q.add && x.del == q.del)) = decide (q ∈ out.take (k + 1)) := by rw [hms, veq]
      have e12 : (x.add == v.add && x.del == v.del) = knownV v (l.take 0) x := by rw [veq]; simp [knownV]
      obtain ⟨th, hth⟩ : ∃ th, th = decide (q ∈ out.take k) := ⟨_, rfl⟩
      rw [← hth] at g9 e9
      have e9t : th = true → decide (q ∈ out.take (k + 1)) = true := fun h => by rw [← e9, h]; rfl
      have e9f : th = false → (x.add == q.add && x.del == q.del) = decide (q ∈ out.take (k + 1)) := fun h => by rw [← e9, h]; rfl
      clear e9 hth hms
      cases th <;> simp -implicitDefEqProofs [g9, g5, c2', g3, c1', n14, n41, n24, n42, n34, n43, e12, g1]
      all_goals
        intro _
        refine loopK.post (FsJ v l q s out k x b1 b2 b3 b4) (fun t => l.length - natOf (t 56)) (FsN v l q s out k x b1 b2 b3 b4) ?_ ?_ ?_
        · exact ⟨0, by simp [g1], by simp [g3], by simp [g5], by simp [g7], ⟨tag, by simp [g8]⟩, by first | simp [e9t rfl] | simp [e9f rfl], by simp [g38], by simp [g39], by simp [g40], by simp, by simp, by simp, by simp, by simp, by simp, by omega, by simp [n14, c1], by simp [n24, c2], by simp [n34, c3], by simp [eV]⟩
        · clear g1 g3 g5 g7 g8 g9 g38 g39 g40 c1 c2 c3 c1' c2' e9t e9f hb4 e12
          rintro t hh ⟨j, g1, g3, g5, g7, ⟨tag, g8⟩, g9, g38, g39, g40, g10, g11, g12, g54, g55, g56, hj, c1, c2, c3, c4⟩
          by_cases hjl : j < l.length
          · have hjl' : (j : Int) < (l.length : Int) := by omega
            have hwj : IntKind.i64.wrap ((j : Int) + 1) = ((j + 1 : Nat) : Int) := by rw [w64 (by omega) (by omega)] <;> omega
            obtain ⟨r, hxr2⟩ : ∃ r, l[j]? = some r := ⟨l[j], by simp [hjl]⟩
            have hks := known_step (v := v) (x := x) hxr2
            have c4' := c4
            rw [eV] at c4'
            have hvx := veq r.view x
            have hkR : knownR x r = (decide (r.view = x) && !decide (r.kind = 4) && !decide (r.kind = 6)) := rfl
            generalize knownV v (l.take j) x = kn at *
            simp -implicitDefEqProofs [g54, g55, g56, hjl', hxr2, eRc]
            refine allocK.intro (fun b5 hb5 => ?_)
            have n15 : ¬ b1 = b5 := by rintro rfl; rw [c1] at hb5; simp at hb5
            have n25 : ¬ b2 = b5 := by rintro rfl; rw [c2] at hb5; simp at hb5
            have n35 : ¬ b3 = b5 := by rintro rfl; rw [c3] at hb5; simp at hb5
            have n45 : ¬ b4 = b5 := by rintro rfl; rw [c4] at hb5; simp at hb5
            have n54 : ¬ b5 = b4 := fun h => n45 h.symm
            cases kn
            · by_cases h1 : r.view = x
              · have hvx : (r.view.add == x.add && r.view.del == x.del) = true := by rw [hvx]; simp [h1]
                by_cases h4 : r.kind = 4
                · have hk2 : knownV v (l.take (j + 1)) x = false := by rw [hks, hkR]; simp [h4]
                  simp -implicitDefEqProofs [g12, g11, c4', n45, n54, hvx, h4, g56, hwj]
                  exact ⟨⟨j + 1, by simp [g1], by simp [g3], by simp [g5], by simp [g7], ⟨tag, by simp [g8]⟩, by simp [g9], by simp [g38], by simp [g39], by simp [g40], by simp [g10], by simp [g11], by simp [hk2], by simp [g54], by simp [g55], by simp, by omega, by simp [n15, c1], by simp [n25, c2], by simp [n35, c3], by simp [n45, c4]⟩, by omega⟩
                · by_cases h6 : r.kind = 6
                  · have hk2 : knownV v (l.take (j + 1)) x = false := by rw [hks, hkR]; simp [h6]
                    simp -implicitDefEqProofs [g12, g11, c4', n45, n54, hvx, h4, h6, g56, hwj]
                    exact ⟨⟨j + 1, by simp [g1], by simp [g3], by simp [g5], by simp [g7], ⟨tag, by simp [g8]⟩, by simp [g9], by simp [g38], by simp [g39], by simp [g40], by simp [g10], by simp [g11], by simp [hk2], by simp [g54], by simp [g55], by simp, by omega, by simp [n15, c1], by simp [n25, c2], by simp [n35, c3], by simp [n45, c4]⟩, by omega⟩
                  · have hk2 : knownV v (l.take (j + 1)) x = true := by rw [hks, hkR]; simp [h1, h4, h6]
                    simp -implicitDefEqProofs [g12, g11, c4', n45, n54, hvx, h4, h6, g56, hwj]
                    exact ⟨⟨j + 1, by simp [g1], by simp [g3], by simp [g5], by simp [g7], ⟨tag, by simp [g8]⟩, by simp [g9], by simp [g38], by simp [g39], by simp [g40], by simp [g10], by simp [g11], by simp [hk2], by simp [g54], by simp [g55], by simp, by omega, by simp [n15, c1], by simp [n25, c2], by simp [n35, c3], by simp [n45, c4]⟩, by omega⟩
              · have hvx : (r.view.add == x.add && r.view.del == x.del) = false := by rw [hvx]; simp [h1]
                have hk2 : knownV v (l.take (j + 1)) x = false := by rw [hks, hkR]; simp [h1]
                simp -implicitDefEqProofs [g12, g11, c4', n45, n54, hvx, g56, hwj]
                exact ⟨⟨j + 1, by simp [g1], by simp [g3], by simp [g5], by simp [g7], ⟨tag, by simp [g8]⟩, by simp [g9], by simp [g38], by simp [g39], by simp [g40], by simp [g10], by simp [g11], by simp [hk2], by simp [g54], by simp [g55], by simp, by omega, by simp [n15, c1], by simp [n25, c2], by simp [n35, c3], by simp [n45, c4]⟩, by omega⟩
            · have hk2 : knownV v (l.take (j + 1)) x = true := by rw [hks]; rfl
              simp -implicitDefEqProofs [g12, g11, c4', n45, n54, g56, hwj]
              exact ⟨⟨j + 1, by simp [g1], by simp [g3], by simp [g5], by simp [g7], ⟨tag, by simp [g8]⟩, by simp [g9], by simp [g38], by simp [g39], by simp [g40], by simp [g10], by simp [g11], by simp [hk2], by simp [g54], by simp [g55], by simp, by omega, by simp [n15, c1], by simp [n25, c2], by simp [n35, c3], by simp [n45, c4]⟩, by omega⟩
          · have hjl' : ¬ (j : Int) < (l.length : Int) := by omega
            rw [List.take_of_length_le (by omega)] at g12
            simp -implicitDefEqProofs [g55, g56, hjl']
            exact ⟨by simp [g1], by simp [g3], by simp [g5], by simp [g7], ⟨tag, by simp [g8]⟩, by simp [g9], by simp [g38], by simp [g39], by simp [g40], by simp [g10], by simp [g11], by simp [g12], c1, c2, c3, c4⟩
        clear g1 g3 g5 g7 g8 g9 g38 g39 g40 c1 c2 c3 c1' c2' e9t e9f hb4 e12
        rintro t hh ⟨g1, g3, g5, g7, ⟨tag, g8⟩, g9, g38, g39, g40, g10, g11, g12, c1, c2, c3, c4⟩
        rw [hxk] at g12
        have c4' := c4
        rw [eV] at c4'
        simp -implicitDefEqProofs
        refine regionK.intro 16 follows_mixed (by kernel_rfl) ?_
        by_cases hk0 : 0 < k
        · have hk0' : (0 : Int) < (k : Int) := by omega
          obtain ⟨m, hm⟩ : ∃ m, m = k - 1 := ⟨_, rfl⟩
          have hw1 : IntKind.i64.wrap ((k : Int) - 1) = (m : Int) := by rw [w64 (by omega) (by omega)] <;> omega
          obtain ⟨y, hy⟩ : ∃ y, out[m]? = some y := ⟨out[m], by simp <;> omega⟩
          have hyr := hall y ((hSO.2 y).1 (List.mem_of_getElem? hy))
          have hless : lessV y x = true := by
            have := List.pairwise_iff_getElem.1 hSO.1 m k (by omega) hlt (by omega)
            rw [List.getElem?_eq_getElem (by omega)] at hy
            rw [List.getElem?_eq_getElem hlt] at hx
            rwa [Option.some.inj hy, Option.some.inj hx] at this
          simp -implicitDefEqProofs [g12, g10, hk0, hk0', g8, hw1, hy, g11, c4', eV]
          refine CallQ.with (less5_spec y x hyr hxr) (by simp [eV]) ?_
          simp -implicitDefEqProofs [hless, g40, hw]
          exact ⟨⟨k + 1, by simp [g1], by simp [g3], by simp [g5], by simp [g7], ⟨tag, by simp [g8]⟩, by simp [g9], by simp [g38], by simp [g39], by simp, by omega, c1, c2, c3⟩, by omega⟩
        · have hk0' : ¬ (0 : Int) < (k : Int) := by omega
          simp -implicitDefEqProofs [g12, g10, hk0, hk0', g40, hw]
          exact ⟨⟨k + 1, by simp [g1], by simp [g3], by simp [g5], by simp [g7], ⟨tag, by simp [g8]⟩, by simp [g9], by simp [g38], by simp [g39], by simp, by omega, c1, c2, c3⟩, by omega⟩
    · have hlt' : ¬ (k : Int) < (out.length : Int) := by omega
      rw [List.take_of_length_le (by omega)] at g9
      simp -implicitDefEqProofs [g39, g40, hlt']
      exact ⟨by simp [g5], by simp [g7], by simp [g9], c2, c3⟩
  clear hb1 hb2 hb3
  rintro t hh ⟨g5, g7, g9, c2, c3⟩
  have hi := intent_spec s q (hok.ok (by omega)) hq
  have c2' := c2
  have c3' := c3
  rw [eV] at c2'
  rw [eSt] at c3'
  rw [intentA] at hi
  simp -implicitDefEqProofs [g5, g7, c2', c3']
  refine CallK.with hi (by simp [eSt, eV]) ?_
  simp -implicitDefEqProofs [eV]
  refine allocK.intro (fun b5 hb5 => ?_)
  have n25 : ¬ b2 = b5 := by rintro rfl; rw [c2] at hb5; simp at hb5
  have n52 : ¬ b5 = b2 := fun h => n25 h.symm
  have n35 : ¬ b3 = b5 := by rintro rfl; rw [c3] at hb5; simp at hb5
  have n53 : ¬ b5 = b3 := fun h => n35 h.symm
  have hbs := book_spec s q (hok.ok (by omega)) hq
  have hcs := cells_spec s q (hok.ok (by omega)) hq
  by_cases hqo : q ∈ out
  · simp -implicitDefEqProofs [g9, hqo, n25, n52, n35, n53]
    refine regionK.intro 23 follows_mixed (by kernel_rfl) ?_
    simp -implicitDefEqProofs [g9, hqo, n25, n52, n35, n53]
  · obtain ⟨z1, z2, z3, z4⟩ := hnot hqo
    rw [z1] at hbs
    rw [z2] at hcs
    have z4' : (s.held.add == q.add && s.held.del == q.del) = false := by rw [veq]; simp [z4]
    have z5 := ne_two (fun h => z4 (view_eq.2 h))
    simp -implicitDefEqProofs [g9, hqo, n25, n52, n35, n53]
    refine regionK.intro 23 follows_mixed (by kernel_rfl) ?_
    simp -implicitDefEqProofs [g9, hqo, n25, n52, n35, n53, g5, g7, c2', c3']
    refine CallQ.of hbs (x := .sl .no []) (by rintro _ ⟨tag, rfl⟩; simp) ?_
    simp -implicitDefEqProofs [g9, hqo, n25, n52, n35, n53, g5, g7, c2', c3']
    refine CallQ.of hcs (x := .sl .no []) (by rintro _ ⟨tag, rfl⟩; simp) ?_
    have hz : IntKind.i64.wrap 0 = 0 := by decide
    simp -implicitDefEqProofs [hz, z3, z5, z4', n25, n52, n35, n53, g5, g7, c2', c3']
end Go.Proofs.YtjbbfiagijjdoaaGreat

/- Arguments of the laws on messages, read as plain data. No condition. -/
set_option linter.unusedSimpArgs false
set_option linter.unusedVariables false
set_option maxRecDepth 10000
namespace Go.Proofs.YtjbbfiagijjdoaaGreat
open Go Go.Rw Go.Proofs

theorem own : ownKnob Tryz.prog.godebug = none := by kernel_rfl
theorem laidOut : laidOutB Tryz.prog = true := by kernel_rfl

theorem bulkAll_sum {H : Type} : ∀ l : List (DataW H), Rows.uptoBulkAll l = (l.map Rows.uptoBulk).sum
  | [] => by simp [Rows.uptoBulkAll]
  | d :: l => by simp [Rows.uptoBulkAll, bulkAll_sum l]
theorem bulkOK {H : Type} : BulkOK (Rows.uptoBulk (H := H)) where
  one := fun d => by
    cases d with
    | lit l => cases l <;> simp [Rows.uptoBulk]
    | nil => simp [Rows.uptoBulk]
    | ptr d => simp [Rows.uptoBulk]
    | slice elems spare => simp [Rows.uptoBulk]
    | agg parts => simp [Rows.uptoBulk]
    | iface t d => simp [Rows.uptoBulk]
    | map entries => simp [Rows.uptoBulk]
    | held h => simp [Rows.uptoBulk]
  slice := fun e s => by simp only [Rows.uptoBulk, bulkAll_sum]; omega
  agg := fun p => by simp only [Rows.uptoBulk, bulkAll_sum]; omega
theorem bulk_of {H : Type} {l : List (DataW H)} (hk : Rows.uptoSmall H l = true) : Rows.uptoBulkAll l ≤ 1048576 := of_decide_eq_true hk

section
variable {H : Type} {enc0 : TypeId × Value → H} {W : World}
def inI (n : Int) : Prop := -9223372036854775808 ≤ n ∧ n ≤ 9223372036854775807
theorem reads_int : Reads Tryz.prog Rows.uptoBulk enc0 W 3 (fun n : Int => [eI n]) (fun n _ => inI n) := Reads.int Tryz.underlying3
theorem reads_f64 : Reads Tryz.prog Rows.uptoBulk enc0 W 44 (fun n : Nat => [AV.v (.float .f64 n)]) (fun n _ => n < 18446744073709551616) := Reads.float Tryz.underlying44
theorem reads_view : Reads Tryz.prog Rows.uptoBulk enc0 W 24 eV (fun v _ => inI v.add ∧ inI v.del) :=
  (Reads.struct bulkOK Tryz.underlying24 (by kernel_rfl) (.cons (sz := 1) rfl (by kernel_rfl) reads_int (.cons (sz := 1) rfl (by kernel_rfl) reads_int .nil)) (fun _ _ _ ⟨m, k, h1, h2⟩ _ => ⟨m, k, by omega, h2⟩)).weaken (β := PView)
    (fun p => ⟨p.1, p.2.1⟩) (fun p => rfl) (fun p n ⟨m, k, _, h1, m', k', _, h2, _⟩ => ⟨h1, h2⟩)
theorem reads_tag : Reads Tryz.prog Rows.uptoBulk enc0 W 43 eT (fun v _ => inI v.num ∧ inI v.node) :=
  (Reads.struct bulkOK Tryz.underlying43 (by kernel_rfl) (.cons (sz := 1) rfl (by kernel_rfl) reads_int (.cons (sz := 1) rfl (by kernel_rfl) reads_int .nil)) (fun _ _ _ ⟨m, k, h1, h2⟩ _ => ⟨m, k, by omega, h2⟩)).weaken (β := PTag)
    (fun p => ⟨p.1, p.2.1⟩) (fun p => rfl) (fun p n ⟨m, k, _, h1, m', k', _, h2, _⟩ => ⟨h1, h2⟩)
def goodC (c : PCell) (_ : Nat) : Prop := inI c.node ∧ inI c.change.add ∧ inI c.change.del
theorem reads_cell : Reads Tryz.prog Rows.uptoBulk enc0 W 48 eC goodC :=
  (Reads.struct bulkOK Tryz.underlying48 (by kernel_rfl) (.cons (sz := 1) rfl (by kernel_rfl) reads_int (.cons (sz := 2) rfl (by kernel_rfl) reads_view .nil)) (fun _ _ _ ⟨m, k, h1, h2⟩ _ => ⟨m, k, by omega, h2⟩)).weaken (β := PCell)
    (fun p => ⟨p.1, p.2.1⟩) (fun p => rfl) (fun p n ⟨m, k, _, h1, m', k', _, h2, _⟩ => ⟨h1, h2⟩)
def goodE (x : PEntry) (_ : Nat) : Prop := inI x.key ∧ (inI x.tag.num ∧ inI x.tag.node) ∧ x.value < 18446744073709551616
theorem reads_entry : Reads Tryz.prog Rows.uptoBulk enc0 W 46 eE goodE :=
  (Reads.struct bulkOK Tryz.underlying46 (by kernel_rfl) (.cons (sz := 1) rfl (by kernel_rfl) reads_int (.cons (sz := 2) rfl (by kernel_rfl) reads_tag (.cons (sz := 1) rfl (by kernel_rfl) reads_f64 .nil))) (fun _ _ _ ⟨m, k, h1, h2⟩ _ => ⟨m, k, by omega, h2⟩)).weaken (β := PEntry)
    (fun p => ⟨p.1, p.2.1, p.2.2.1⟩) (fun p => rfl) (fun p n ⟨m, k, _, h1, m', k', _, h2, m2, k2, _, h3, _⟩ => ⟨h1, h2, h3⟩)
structure GoodM (m : PMsg) (n : Nat) : Prop where
  kind : inI m.kind
  frm : inI m.frm
  to : inI m.to
  inc : inI m.inc
  seq : inI m.seq
  view : inI m.view.add ∧ inI m.view.del
  lists : ∃ a b, a + b ≤ n ∧ Goods goodC m.cells a ∧ Goods goodE m.book b
theorem GoodM.fit {m : PMsg} {n : Nat} (h : GoodM m n) : ∀ x ∈ m.book, x.value < 18446744073709551616 := by
  obtain ⟨a, b, h1, h2, h3⟩ := h.lists
  intro x hx
  obtain ⟨_, _, h4⟩ := h3.mem x hx
  exact h4.2.2

def zeroMsg : Value := .agg #[.int .i64 0, .int .i64 0, .int .i64 0, .int .i64 0, .int .i64 0, .int .i64 0, .int .i64 0, .slice none 0 0, .slice none 0 0]
def z0 : DataW H := .lit (.int .i64 0)
def zeroMsgD : DataW H := .agg [z0, z0, z0, z0, z0, .agg [z0, z0], .nil, .nil]
theorem reps_two {I : Imm} {x1 x2 : AV} {y1 y2 : Value} (h1 : Rep I x1 y1) (h2 : Rep I x2 y2) : Reps I [x1, x2] [y1, y2] := cell_reps (reps_one h1) [x2] [y2] (reps_one h2)
theorem reps_three {I : Imm} {x1 x2 x3 : AV} {y1 y2 y3 : Value} (h1 : Rep I x1 y1) (h2 : Rep I x2 y2) (h3 : Rep I x3 y3) : Reps I [x1, x2, x3] [y1, y2, y3] := cell_reps (reps_one h1) [x2, x3] [y2, y3] (reps_two h2 h3)
/-- an argument that is a struct -/
theorem arg_agg {t : TypeId} {fs : Array Field} {α : Type} {enc : α → List AV} {good : α → Nat → Prop} (hr : Reads Tryz.prog Rows.uptoBulk enc0 W t enc good) (ht : Tryz.prog.underlying t = some (.struct fs)) {v : Value} {d : DataW H} {p : List MemPlace} {base : Nat}
    (hok : Value.okWide Tryz.prog W .any base t v) (h : DataW.Trod enc0 Tryz.prog W 0 (fun _ => true) true t v d p) (hb : Rows.uptoBulk d ≤ 1048576) : ∃ a, Rep (allI W) (.agg (enc a)) v ∧ good a (Rows.uptoBulk d) := by
  simp only [Value.okWide, ht] at hok
  obtain ⟨cs, rfl, _, _⟩ := hok
  obtain ⟨fuel, hf⟩ := h
  obtain ⟨a, h1, h2⟩ := hr fuel _ _ hf (show Rows.uptoBulk d ≤ 281474976710656 by omega)
  refine ⟨a, ?_, h2⟩
  have : cs = (Value.agg cs).cells.toList.toArray := by simp [Value.cells]
  conv => rhs; rw [this]
  exact .agg _ h1.1 h1.2
/-- an argument of one cell -/
theorem arg_one {t : TypeId} {α : Type} {enc : α → AV} {good : α → Nat → Prop} (hr : Reads Tryz.prog Rows.uptoBulk enc0 W t (fun a => [enc a]) good) {v : Value} {d : DataW H} {p : List MemPlace}
    (hv : v.cells.toList = [v]) (h : DataW.Trod enc0 Tryz.prog W 0 (fun _ => true) true t v d p) (hb : Rows.uptoBulk d ≤ 1048576) : ∃ a, Rep (allI W) (enc a) v ∧ good a (Rows.uptoBulk d) := by
  obtain ⟨fuel, hf⟩ := h
  obtain ⟨a, h1, h2⟩ := hr fuel _ _ hf (show Rows.uptoBulk d ≤ 281474976710656 by omega)
  rw [hv] at h1
  exact ⟨a, h1.2 0 _ _ rfl rfl, h2⟩
/-- a value that is no struct is one cell -/
theorem one_cell {t : TypeId} {u : TypeDesc} (ht : Tryz.prog.underlying t = some u) (h1 : ∀ fs, u ≠ .struct fs) (h2 : ∀ n e, u ≠ .array n e) {v : Value} {base : Nat} (hok : Value.okWide Tryz.prog W .any base t v) : v.cells.toList = [v] := by
  unfold Value.okWide at hok
  rw [ht] at hok
  have hcell : Cell.okWide Tryz.prog W .any base t v := by
    cases u <;> first | exact hok | exact absurd rfl (h1 _) | exact absurd rfl (h2 _ _)
  cases v with
  | agg cs =>
    unfold Cell.okWide at hcell
    rw [ht] at hcell
    cases u <;> simp [Cell.ok, ht] at hcell
  | _ => rfl
end
end Go.Proofs.YtjbbfiagijjdoaaGreat

/- Arguments of the laws on records, read as plain data. No condition. -/
set_option linter.unusedSimpArgs false
set_option linter.unusedVariables false
set_option maxRecDepth 10000
namespace Go.Proofs.YtjbbfiagijjdoaaGreat
open Go Go.Rw Go.Proofs

section
variable {H : Type} {enc0 : TypeId × Value → H} {W : World}
def goodR (r : PRec) (_ : Nat) : Prop := inI r.kind ∧ (inI r.view.add ∧ inI r.view.del) ∧ goodC r.cell 0 ∧ goodE r.entry 0 ∧ inI r.n
theorem goodR.fit {r : PRec} {n : Nat} (h : goodR r n) : fitR r := h.2.2.2.1.2.2
set_option maxHeartbeats 2000000 in
theorem reads_rec : Reads Tryz.prog Rows.uptoBulk enc0 W 66 eRc goodR :=
  (Reads.struct bulkOK Tryz.underlying66 (by kernel_rfl) (.cons (sz := 1) rfl (by kernel_rfl) reads_int (.cons (sz := 2) rfl (by kernel_rfl) reads_view (.cons (sz := 3) rfl (by kernel_rfl) reads_cell (.cons (sz := 4) rfl (by kernel_rfl) reads_entry (.cons (sz := 1) rfl (by kernel_rfl) reads_int .nil))))) (fun _ _ _ ⟨m, k, h1, h2⟩ _ => ⟨m, k, by omega, h2⟩)).weaken (β := PRec)
    (fun p => ⟨p.1, p.2.1, p.2.2.1, p.2.2.2.1, p.2.2.2.2.1⟩) (fun p => rfl)
    (fun p n ⟨_, _, _, h1, _, _, _, h2, _, _, _, h3, _, _, _, h4, _, _, _, h5, _⟩ => ⟨h1, h2, h3, h4, h5⟩)
theorem reads_recs : Reads Tryz.prog Rows.uptoBulk enc0 W 22 (fun l : List PRec => [AV.sl .no (eRs l)]) (fun l n => Goods goodR l n) :=
  Reads.slice (sz := 11) bulkOK Tryz.underlying22 (by kernel_rfl) (by omega) reads_rec (by intro a x hx; simp [eRc] at hx; rcases hx with rfl | rfl | rfl | rfl | rfl | rfl | rfl | rfl | rfl | rfl | rfl <;> rfl)
theorem goods_fits {l : List PRec} {n : Nat} (h : Goods goodR l n) : ∀ r ∈ l, fitR r := fun r hr => by
  obtain ⟨_, _, h2⟩ := h.mem r hr
  exact h2.fit
def zeroRec : Value := .agg #[.int .i64 0, .int .i64 0, .int .i64 0, .int .i64 0, .int .i64 0, .int .i64 0, .int .i64 0, .int .i64 0, .int .i64 0, .float .f64 0, .int .i64 0]
def zeroRecD : DataW H := .agg [z0, .agg [z0, z0], .agg [z0, .agg [z0, z0]], .agg [z0, .agg [z0, z0], .lit (.float .f64 0)], z0]
end
end Go.Proofs.YtjbbfiagijjdoaaGreat

/- Contracts: books within one another, cells that clash; plain: nothing is less behind more records. No condition. -/
set_option linter.unusedSimpArgs false
set_option linter.unusedVariables false
set_option maxRecDepth 10000
namespace Go.Proofs.YtjbbfiagijjdoaaGreat
open Go Go.Rw Go.Proofs
-- a goal is never to be run by the elaborator
attribute [local irreducible] awp aops aop aopsE aeff

theorem within7_spec (a b : List PEntry) (ha : a.length ≤ 1000000000) : ASpec Tryz.prog 45 [.sl .no (eEs a), .sl .no (eEs b)] (· = .v (.bool (decide (newsE b a = [])))) := by
  refine ASpec.of_awp Tryz.func45 (by kernel_rfl) rfl (by rw [Tryz.results45]) Tryz.ntmps45 ?_
  simp -implicitDefEqProofs
  refine CallK.via (news_spec b a ha) (by simp) ?_
  rintro _ ⟨tag, rfl⟩
  generalize newsE b a = l
  simp -implicitDefEqProofs
/-- nothing is less behind more records -/
theorem fold_more (v : PView) (l : List PRec) (k : Nat) : foldS v l = (l.drop k).foldl applyS (foldS v (l.take k)) := by
  unfold foldS
  rw [← List.foldl_append, List.take_append_drop]
theorem more_held : ∀ {l : List PRec} {s : PState}, withinV s.held (l.foldl applyS s).held = true
  | [], s => withinV_self _
  | r :: l, s => within_trans (held_grows r) (more_held (l := l))
theorem more_nums : ∀ {l : List PRec} {s : PState}, s.inc ≤ (l.foldl applyS s).inc ∧ s.last ≤ (l.foldl applyS s).last
  | [], s => ⟨Int.le_refl _, Int.le_refl _⟩
  | r :: l, s => by
    obtain ⟨i1, i2⟩ := more_nums (l := l) (s := applyS s r)
    rw [List.foldl_cons]
    rw [apply_inc] at i1
    rw [apply_last] at i2
    refine ⟨Int.le_trans ?_ i1, Int.le_trans ?_ i2⟩ <;> split <;> omega
theorem more_intent {v : PView} (hv : rightV v = true) : ∀ {l : List PRec} {n : Nat} {s : PState}, OkT n s → (∀ r ∈ l, rightR r = true) → ∀ c, intentS s v = some c → intentS (l.foldl applyS s) v = some c
  | [], _, _, _, _, c, h => h
  | r :: l, n, s, h, hl, c, hc => by
    have hr := hl r (by simp)
    rw [List.foldl_cons]
    refine more_intent hv (okT_apply h hr) (fun x hx => hl x (by simp [hx])) c ?_
    rw [intentS_apply h.toOkN hr hv, if_neg (fun h2 => by rw [hc] at h2; cases h2.2.2), hc]
theorem more_book {v : PView} (hv : rightV v = true) {l : List PRec} {n : Nat} {s : PState} (h : OkT n s) (hl : ∀ r ∈ l, rightR r = true) : newsE (bookS (l.foldl applyS s) v) (bookS s v) = [] := by
  have hg := (list_grows hv h hl).1
  unfold newsE
  rw [List.filter_eq_nil_iff]
  intro x hx
  have hok := h.bookOk v
  have hf : findE (bookS s v) x.key = x := by
    rw [findE_look, show x.key = keyE x from rfl, (look_mem hok.1).1 hx]; rfl
  have := hg x.key
  rw [hf] at this
  simpa using this
theorem more_cells {v : PView} (hv : rightV v = true) {l : List PRec} {n : Nat} {s : PState} (h : OkT n s) (hl : ∀ r ∈ l, rightR r = true) : newsC (cellsS (l.foldl applyS s) v) (cellsS s v) = [] ∧ clashC (cellsS s v) (cellsS (l.foldl applyS s) v) = false := by
  have hg := (list_grows hv h hl).2
  have hok := (h.cellsOk v).1
  have ho : ∀ c ∈ cellsS s v, ofC (cellsS (l.foldl applyS s) v) c.node = some c.change := fun c hc => hg _ _ ((ofC_mem hok.1).1 hc)
  refine ⟨?_, ?_⟩
  · unfold newsC
    rw [List.filter_eq_nil_iff]
    intro c hc
    rw [ho c hc]; simp
  · unfold clashC
    rw [List.any_eq_false]
    intro c hc
    unfold clash1
    rw [ho c hc]; simp
end Go.Proofs.YtjbbfiagijjdoaaGreat

/- The law FoldGrows. No condition. -/
set_option linter.unusedSimpArgs false
set_option linter.unusedVariables false
set_option maxRecDepth 10000
namespace Go.Proofs.YtjbbfiagijjdoaaGreat
open Go Go.Rw Go.Proofs
-- a goal is never to be run by the elaborator
attribute [local irreducible] awp aops aop aopsE aeff

def FgI (s s2 : PState) (out : List PView) (b2 b3 : Nat) (t : Nat → AV) (h : Nat → Option (List AV)) : Prop := ∃ k : Nat, t 7 = .ptr b2 0 ∧ t 8 = .ptr b3 0 ∧ (∃ tag, t 72 = .sl tag (eVs out)) ∧ t 73 = eI out.length ∧ t 74 = eI k ∧ k ≤ out.length ∧ h b2 = some (eSt s) ∧ h b3 = some (eSt s2)
theorem grows12_law (v : PView) (l : List PRec) (a : Int) (hf : ∀ r ∈ l, fitR r) (hl : l.length ≤ 1048576) : ASpec Tryz.prog 11 [.agg (eV v), .sl .no (eRs l), eI a] (· = .v (.bool true)) := by
  refine ASpec.of_awp Tryz.func11 (by kernel_rfl) rfl (by rw [Tryz.results11]) Tryz.ntmps11 ?_
  simp -implicitDefEqProofs [eV]
  refine allocK.intro (fun b1 hb1 => ?_)
  simp -implicitDefEqProofs
  refine CallK.eq alive12_spec ?_
  simp -implicitDefEqProofs
  intro _
  by_cases h60 : 60 < l.length
  · have h60' : (60 : Int) < (l.length : Int) := by omega
    simp -implicitDefEqProofs [h60, h60']
  have h60' : ¬ (60 : Int) < (l.length : Int) := by omega
  by_cases ha0 : a < 0
  · simp -implicitDefEqProofs [h60, h60', ha0]
  by_cases hal : (l.length : Int) < a
  · simp -implicitDefEqProofs [h60, h60', ha0, hal]
  obtain ⟨m, rfl⟩ : ∃ m : Nat, a = (m : Int) := ⟨a.toNat, by omega⟩
  have hm : m ≤ l.length := by omega
  have hm' : (m : Int) ≤ (l.length : Int) := by omega
  have hal' : ¬ l.length < m := by omega
  simp -implicitDefEqProofs [h60, h60', ha0, hal, hal']
  intro _
  refine CallK.with (right12_spec v l hf (by omega)) (by simp [eV]) ?_
  cases hr : (l.all rightR && rightV v)
  · simp -implicitDefEqProofs
  obtain ⟨hr1, hv⟩ := right12_of hr
  have hr2 : ∀ r ∈ l.take m, rightR r = true := fun r h => hr1 r (List.mem_of_mem_take h)
  have hr3 : ∀ r ∈ l.drop m, rightR r = true := fun r h => hr1 r (List.mem_of_mem_drop h)
  have hfold := fold_spec v l hv hr1 (by omega)
  have hfold1 := fold_spec v (l.take m) hv hr2 (by rw [List.length_take]; omega)
  have hok2 := okT_fold hv hr1 l.length (Nat.le_refl _)
  have hok := okT_fold hv hr1 m hm
  rw [List.take_length] at hok2
  have hmore := fold_more v l m
  have hall := all_right hok
  have hlen := all_len hok
  have hseen := seen_is (foldS v (l.take m)) hall (by omega)
  have hSO := seenV_ok hall
  have hw1 : withinV v (foldS v (l.take m)).held = true := more_held (l := l.take m) (s := newS v)
  have hw2 : withinV (foldS v (l.take m)).held (foldS v l).held = true := by rw [hmore]; exact more_held
  have hn : (foldS v (l.take m)).inc ≤ (foldS v l).inc ∧ (foldS v (l.take m)).last ≤ (foldS v l).last := by rw [hmore]; exact more_nums
  have hint : ∀ {q : PView}, rightV q = true → ∀ c, intentS (foldS v (l.take m)) q = some c → intentS (foldS v l) q = some c := fun {q} hq => by rw [hmore]; exact more_intent hq hok hr3
  have hbk : ∀ {q : PView}, rightV q = true → newsE (bookS (foldS v l) q) (bookS (foldS v (l.take m)) q) = [] := fun {q} hq => by rw [hmore]; exact more_book hq hok hr3
  have hcl : ∀ {q : PView}, rightV q = true → newsC (cellsS (foldS v l) q) (cellsS (foldS v (l.take m)) q) = [] ∧ clashC (cellsS (foldS v (l.take m)) q) (cellsS (foldS v l) q) = false := fun {q} hq => by rw [hmore]; exact more_cells hq hok hr3
  have hol := seen_len (foldS v (l.take m))
  clear hmore
  generalize foldS v (l.take m) = s at *
  generalize foldS v l = s2 at *
  generalize seenV s = out at *
  obtain ⟨hi1, hi2⟩ := hn
  have hi1' : ¬ s2.inc < s.inc := by omega
  have hi2' : ¬ s2.last < s.last := by omega
  simp -implicitDefEqProofs
  refine regionK.order [] [0, 1, 2, 3, 4, 5, 6, 7, 8, 9, 10, 11] [.q, .q, .q, .q, .q, .q, .q, .q, .l, .l, .s, .s] follows_mixed (by kernel_rfl) rfl ?_
  simp -implicitDefEqProofs [pickL, hm, hm']
  refine CallQ.with hfold1 (by simp [eV]) ?_
  simp -implicitDefEqProofs
  refine CallQ.with hfold (by simp [eV]) ?_
  simp -implicitDefEqProofs [eSt]
  refine allocK.intro (fun b2 hb2 => ?_)
  have n12 : ¬ b1 = b2 := by rintro rfl; simp at hb2
  have n21 : ¬ b2 = b1 := fun h => n12 h.symm
  simp -implicitDefEqProofs [n12, n21]
  refine allocK.intro (fun b3 hb3 => ?_)
  have n13 : ¬ b1 = b3 := by rintro rfl; simp [n12] at hb3
  have n31 : ¬ b3 = b1 := fun h => n13 h.symm
  have n23 : ¬ b2 = b3 := by rintro rfl; simp at hb3
  have n32 : ¬ b3 = b2 := fun h => n23 h.symm
  simp -implicitDefEqProofs [n12, n21, n13, n31, n23, n32]
  refine CallK.with (within_spec s.held s2.held hok.rh hok2.rh) (by simp [eV]) ?_
  rw [hw2]
  simp -implicitDefEqProofs [n12, n21, n13, n31, n23, n32]
  refine CallK.with (within_spec v s.held hv hok.rh) (by simp [eV]) ?_
  rw [hw1]
  simp -implicitDefEqProofs [n12, n21, n13, n31, n23, n32, hi1', hi2']
  refine CallK.via hseen (by simp [eSt]) ?_
  rintro _ ⟨tag, rfl⟩
  simp -implicitDefEqProofs [n12, n21, n13, n31, n23, n32]
  intro _
  refine loopK.post (FgI s s2 out b2 b3) (fun t => out.length - natOf (t 74)) (fun _ _ => True) ?_ ?_ ?_
  · exact ⟨0, by simp, by simp, ⟨tag, by simp⟩, by simp, by simp, by omega, by simp [n12, n21, n13, n31, n23, n32, eSt], by simp [n12, n21, n13, n31, n23, n32, eSt]⟩
  · clear hb1 hb2 hb3
    rintro t hh ⟨k, g7, g8, ⟨tag, g72⟩, g73, g74, hk, c2, c3⟩
    by_cases hlt : k < out.length
    · have hlt' : (k : Int) < (out.length : Int) := by omega
      have hw : IntKind.i64.wrap ((k : Int) + 1) = ((k + 1 : Nat) : Int) := by rw [w64 (by omega) (by omega)] <;> omega
      obtain ⟨q, hx⟩ : ∃ q, out[k]? = some q := ⟨out[k], by simp [hlt]⟩
      have hqr := hall q ((hSO.2 q).1 (List.mem_of_getElem? hx))
      have c2' := c2
      have c3' := c3
      rw [eSt] at c2' c3'
      simp -implicitDefEqProofs [g72, g73, g74, hlt', hx, eV]
      refine allocK.intro (fun b4 hb4 => ?_)
      have n24 : ¬ b2 = b4 := by rintro rfl; rw [c2] at hb4; simp at hb4
      have n42 : ¬ b4 = b2 := fun h => n24 h.symm
      have n34 : ¬ b3 = b4 := by rintro rfl; rw [c3] at hb4; simp at hb4
      have n43 : ¬ b4 = b3 := fun h => n34 h.symm
      have hA1 := intent_spec s q (hok.ok (by omega)) hqr
      have hA2 := intent_spec s2 q (hok2.ok (by omega)) hqr
      have hB1 := book_spec s q (hok.ok (by omega)) hqr
      have hB2 := book_spec s2 q (hok2.ok (by omega)) hqr
      have hC1 := cells_spec s q (hok.ok (by omega)) hqr
      have hC2 := cells_spec s2 q (hok2.ok (by omega)) hqr
      have hBl : (bookS s q).length ≤ 1000000000 := by
        rw [bookS_look hok.sb]
        cases hlk : lookK keyVB s.books (nameV q) with
        | none => simp
        | some x => have := hok.bl x (look_some hlk).1; simp; omega
      have hCl : (cellsS s q).length ≤ 1000000000 := by
        have := okCs_len (hok.cellsOk q).1; omega
      have hwE := within7_spec (bookS s q) (bookS s2 q) hBl
      rw [hbk hqr] at hwE
      have hnC := newsC_spec (cellsS s2 q) (cellsS s q) hCl
      have hcC := clash_spec (cellsS s q) (cellsS s2 q)
      rw [(hcl hqr).1] at hnC
      rw [(hcl hqr).2] at hcC
      have hin := hint hqr
      rw [intentA] at hA1 hA2
      generalize intentS s q = o1 at *
      generalize intentS s2 q = o2 at *
      simp -implicitDefEqProofs [g7, c2', n24, n42, n34, n43]
      refine CallK.with hA1 (by simp [eSt, eV]) ?_
      simp -implicitDefEqProofs [eV]
      refine allocK.intro (fun b5 hb5 => ?_)
      have n25 : ¬ b2 = b5 := by rintro rfl; simp [n24, c2] at hb5
      have n52 : ¬ b5 = b2 := fun h => n25 h.symm
      have n35 : ¬ b3 = b5 := by rintro rfl; simp [n34, c3] at hb5
      have n53 : ¬ b5 = b3 := fun h => n35 h.symm
      have n45 : ¬ b4 = b5 := by rintro rfl; simp at hb5
      have n54 : ¬ b5 = b4 := fun h => n45 h.symm
      simp -implicitDefEqProofs [g8, c3', n24, n42, n34, n43, n25, n52, n35, n53, n45, n54]
      refine CallK.with hA2 (by simp [eSt, eV]) ?_
      simp -implicitDefEqProofs [eV]
      refine allocK.intro (fun b6 hb6 => ?_)
      have n26 : ¬ b2 = b6 := by rintro rfl; simp [n24, n25, c2] at hb6
      have n62 : ¬ b6 = b2 := fun h => n26 h.symm
      have n36 : ¬ b3 = b6 := by rintro rfl; simp [n34, n35, c3] at hb6
      have n63 : ¬ b6 = b3 := fun h => n36 h.symm
      have n46 : ¬ b4 = b6 := by rintro rfl; simp [n45] at hb6
      have n64 : ¬ b6 = b4 := fun h => n46 h.symm
      have n56 : ¬ b5 = b6 := by rintro rfl; simp at hb6
      have n65 : ¬ b6 = b5 := fun h => n56 h.symm
      simp -implicitDefEqProofs [n24, n42, n34, n43, n25, n52, n35, n53, n45, n54, n26, n62, n36, n63, n46, n64, n56, n65]
      refine regionK.intro 40 follows_mixed (by kernel_rfl) ?_
      simp -implicitDefEqProofs [g7, c2', n24, n42, n34, n43, n25, n52, n35, n53, n45, n54, n26, n62, n36, n63, n46, n64, n56, n65]
      refine CallQ.of hB1 (x := .sl .no (eEs (bookS s q))) (by rintro _ ⟨tag, rfl⟩; simp) ?_
      simp -implicitDefEqProofs [g8, c3', n24, n42, n34, n43, n25, n52, n35, n53, n45, n54, n26, n62, n36, n63, n46, n64, n56, n65]
      refine CallQ.of hB2 (x := .sl .no (eEs (bookS s2 q))) (by rintro _ ⟨tag, rfl⟩; simp) ?_
      simp -implicitDefEqProofs [g8, c3', n24, n42, n34, n43, n25, n52, n35, n53, n45, n54, n26, n62, n36, n63, n46, n64, n56, n65]
      refine CallQ.with hwE (by simp) ?_
      simp -implicitDefEqProofs [g8, c3', n24, n42, n34, n43, n25, n52, n35, n53, n45, n54, n26, n62, n36, n63, n46, n64, n56, n65]
      refine CallQ.of hC2 (x := .sl .no (eCs (cellsS s2 q))) (by rintro _ ⟨tag, rfl⟩; simp) ?_
      simp -implicitDefEqProofs [g7, c2', n24, n42, n34, n43, n25, n52, n35, n53, n45, n54, n26, n62, n36, n63, n46, n64, n56, n65]
      refine CallQ.of hC1 (x := .sl .no (eCs (cellsS s q))) (by rintro _ ⟨tag, rfl⟩; simp) ?_
      simp -implicitDefEqProofs [g7, c2', n24, n42, n34, n43, n25, n52, n35, n53, n45, n54, n26, n62, n36, n63, n46, n64, n56, n65]
      refine CallQ.of hnC (x := .sl .no []) (by rintro _ ⟨tag, rfl⟩; simp) ?_
      simp -implicitDefEqProofs [g7, c2', n24, n42, n34, n43, n25, n52, n35, n53, n45, n54, n26, n62, n36, n63, n46, n64, n56, n65]
      refine CallQ.of hC1 (x := .sl .no (eCs (cellsS s q))) (by rintro _ ⟨tag, rfl⟩; simp) ?_
      simp -implicitDefEqProofs [g8, c3', n24, n42, n34, n43, n25, n52, n35, n53, n45, n54, n26, n62, n36, n63, n46, n64, n56, n65]
      refine CallQ.of hC2 (x := .sl .no (eCs (cellsS s2 q))) (by rintro _ ⟨tag, rfl⟩; simp) ?_
      simp -implicitDefEqProofs [g8, c3', n24, n42, n34, n43, n25, n52, n35, n53, n45, n54, n26, n62, n36, n63, n46, n64, n56, n65]
      refine CallQ.with hcC (by simp) ?_
      cases o1 with
      | none =>
        simp -implicitDefEqProofs [g74, hw, n24, n42, n34, n43, n25, n52, n35, n53, n45, n54, n26, n62, n36, n63, n46, n64, n56, n65]
        exact ⟨⟨k + 1, by simp [g7], by simp [g8], ⟨tag, by simp [g72]⟩, by simp [g73], by simp, by omega, by simp [n24, n25, n26, c2], by simp [n34, n35, n36, c3]⟩, by omega⟩
      | some c =>
        have h2 := hin c rfl
        subst h2
        simp -implicitDefEqProofs [g74, hw, n24, n42, n34, n43, n25, n52, n35, n53, n45, n54, n26, n62, n36, n63, n46, n64, n56, n65]
        exact ⟨⟨k + 1, by simp [g7], by simp [g8], ⟨tag, by simp [g72]⟩, by simp [g73], by simp, by omega, by simp [n24, n25, n26, c2], by simp [n34, n35, n36, c3]⟩, by omega⟩
    · have hlt' : ¬ (k : Int) < (out.length : Int) := by omega
      simp -implicitDefEqProofs [g73, g74, hlt']
  rintro t hh -
  simp -implicitDefEqProofs
end Go.Proofs.YtjbbfiagijjdoaaGreat

/- Contracts: the document's views seen, and whether views are the same. No condition. -/
set_option linter.unusedSimpArgs false
set_option linter.unusedVariables false
set_option maxRecDepth 10000
namespace Go.Proofs.YtjbbfiagijjdoaaGreat
open Go Go.Rw Go.Proofs
-- a goal is never to be run by the elaborator
attribute [local irreducible] awp aops aop aopsE aeff

theorem less_trans {a b c : PView} (h1 : lessV a b = true) (h2 : lessV b c = true) : lessV a c = true := by
  have h := swoV.trans a b c (by rw [ltV_cm]; exact h1) (by rw [ltV_cm]; exact h2)
  rwa [ltV_cm] at h
/-- does a view go behind all of a list? -/
def afterO (o : List PView) (x : PView) : Bool := match o.getLast? with | none => true | some y => lessV y x
def lessO (acc : Option PView) (x : PView) : Bool := match acc with | none => true | some b => lessV x b
/-- the least that goes behind a list -/
def nextF (o : List PView) (acc : Option PView) (x : PView) : Option PView := if afterO o x && lessO acc x then some x else acc
def nextV (o l : List PView) : Option PView := l.foldl (nextF o) none
theorem nextV_step {o l : List PView} {k : Nat} {x : PView} (h : l[k]? = some x) : nextV o (l.take (k + 1)) = nextF o (nextV o (l.take k)) x := by
  unfold nextV
  rw [List.take_add_one, h, List.foldl_append]; rfl
theorem nextV_spec (o : List PView) (l : List PView) : (∀ x ∈ l, rightV x = true) → (nextV o l = none → ∀ x ∈ l, afterO o x = false) ∧ (∀ b, nextV o l = some b → b ∈ l ∧ afterO o b = true ∧ ∀ x ∈ l, afterO o x = true → x = b ∨ lessV b x = true) := by
  refine snoc_ind (P := fun l => (∀ x ∈ l, rightV x = true) → (nextV o l = none → ∀ x ∈ l, afterO o x = false) ∧ (∀ b, nextV o l = some b → b ∈ l ∧ afterO o b = true ∧ ∀ x ∈ l, afterO o x = true → x = b ∨ lessV b x = true)) (fun _ => ⟨fun _ x hx => by simp at hx, fun b hb => by simp [nextV] at hb⟩) (fun l y ih => ?_) l
  intro hr
  obtain ⟨i1, i2⟩ := ih (fun x hx => hr x (by simp [hx]))
  have e : nextV o (l ++ [y]) = nextF o (nextV o l) y := by unfold nextV; rw [List.foldl_append]; rfl
  rw [e]
  have hy := hr y (by simp)
  cases ha : afterO o y
  · have e2 : nextF o (nextV o l) y = nextV o l := by unfold nextF; rw [ha]; simp [lessO]
    rw [e2]
    refine ⟨fun h x hx => ?_, fun b hb => ?_⟩
    · rcases List.mem_append.1 hx with h1 | h1
      · exact i1 h x h1
      · simp at h1; rw [h1]; exact ha
    · obtain ⟨h1, h2, h3⟩ := i2 b hb
      refine ⟨by simp [h1], h2, fun x hx hax => ?_⟩
      rcases List.mem_append.1 hx with h4 | h4
      · exact h3 x h4 hax
      · simp at h4; rw [h4, ha] at hax; cases hax
  · cases hn : nextV o l with
    | none =>
      have e2 : nextF o none y = some y := by unfold nextF; rw [ha]; simp [lessO]
      rw [e2]
      refine ⟨fun h => (by cases h), fun b hb => ?_⟩
      cases hb
      refine ⟨by simp, ha, fun x hx hax => ?_⟩
      rcases List.mem_append.1 hx with h4 | h4
      · rw [i1 hn x h4] at hax; cases hax
      · simp at h4; exact .inl h4
    | some c =>
      obtain ⟨h1, h2, h3⟩ := i2 c hn
      cases hl : lessV y c
      · have e2 : nextF o (some c) y = some c := by unfold nextF; rw [ha]; simp [lessO, hl]
        rw [e2]
        refine ⟨fun h => (by cases h), fun b hb => ?_⟩
        cases hb
        refine ⟨by simp [h1], h2, fun x hx hax => ?_⟩
        rcases List.mem_append.1 hx with h4 | h4
        · exact h3 x h4 hax
        · simp at h4
          subst h4
          cases hl2 : lessV c x
          · exact .inl (less_total hy (hr c (by simp [h1])) hl hl2)
          · exact .inr rfl
      · have e2 : nextF o (some c) y = some y := by unfold nextF; rw [ha]; simp [lessO, hl]
        rw [e2]
        refine ⟨fun h => (by cases h), fun b hb => ?_⟩
        cases hb
        refine ⟨by simp, ha, fun x hx hax => ?_⟩
        rcases List.mem_append.1 hx with h4 | h4
        · rcases h3 x h4 hax with h5 | h5
          · rw [h5]; exact .inr hl
          · exact .inr (less_trans hl h5)
        · simp at h4; exact .inl h4
/-- the views put out so far -/
def OutI (l o : List PView) : Prop := o.Pairwise (fun a b => lessV a b = true) ∧ (∀ x ∈ o, x ∈ l) ∧ ∀ x ∈ l, x ∈ o ∨ afterO o x = true
theorem after_snoc (o : List PView) (b x : PView) : afterO (o ++ [b]) x = lessV b x := by
  unfold afterO; rw [List.getLast?_append]; rfl
theorem after_all {o : List PView} {b : PView} (ho : o.Pairwise (fun a b => lessV a b = true)) (hb : afterO o b = true) : ∀ a ∈ o, lessV a b = true := by
  intro a ha
  cases hl : o.getLast? with
  | none => rw [List.getLast?_eq_none_iff] at hl; rw [hl] at ha; simp at ha
  | some y =>
    obtain ⟨ys, rfl⟩ := List.getLast?_eq_some_iff.1 hl
    rw [after_snoc] at hb
    rcases List.mem_append.1 ha with h | h
    · exact less_trans ((List.pairwise_append.1 ho).2.2 a h y (by simp)) hb
    · simp at h; rw [h]; exact hb
theorem out_next {l o : List PView} {b : PView} (hr : ∀ x ∈ l, rightV x = true) (h : OutI l o) (hn : nextV o l = some b) : OutI l (o ++ [b]) := by
  obtain ⟨h1, h2, h3⟩ := h
  obtain ⟨n1, n2, n3⟩ := (nextV_spec o l hr).2 b hn
  refine ⟨List.pairwise_append.2 ⟨h1, List.pairwise_singleton _ _, fun a ha c hc => ?_⟩, fun x hx => ?_, fun x hx => ?_⟩
  · simp at hc; rw [hc]; exact after_all h1 n2 a ha
  · rcases List.mem_append.1 hx with h | h
    · exact h2 x h
    · simp at h; rw [h]; exact n1
  · rw [after_snoc]
    rcases h3 x hx with h | h
    · exact .inl (by simp [h])
    · rcases n3 x hx h with h | h
      · exact .inl (by simp [h])
      · exact .inr h
theorem sub_len {α : Type} [DecidableEq α] : ∀ {o l : List α}, o.Nodup → (∀ x ∈ o, x ∈ l) → o.length ≤ l.length
  | [], _, _, _ => by simp
  | x :: o, l, h1, h2 => by
    rw [List.nodup_cons] at h1
    have hx := h2 x (by simp)
    have := sub_len (o := o) (l := l.erase x) h1.2 (fun y hy => (List.mem_erase_of_ne (fun h => h1.1 (by rw [← h]; exact hy))).2 (h2 y (by simp [hy])))
    rw [List.length_erase_of_mem hx] at this
    have := List.length_pos_of_mem hx
    simp; omega
theorem out_len {l o : List PView} (h : OutI l o) : o.length ≤ l.length :=
  sub_len (h.1.imp fun {x y} h2 e => by subst e; rw [less_irr] at h2; cases h2) h.2.1
theorem out_done {s : PState} {o : List PView} (hr : ∀ x ∈ allV s, rightV x = true) (h : OutI (allV s) o) (hn : nextV o (allV s) = none) : SeenOf s o :=
  ⟨h.1, fun x => ⟨h.2.1 x, fun hx => (h.2.2 x hx).resolve_right fun h2 => by rw [(nextV_spec o _ hr).1 hn x hx] at h2; cases h2⟩⟩

def Sm5I (a b : List PView) (t : Nat → AV) (_ : Nat → Option (List AV)) : Prop := ∃ k : Nat, t 0 = .sl .no (eVs a) ∧ t 1 = .sl .no (eVs b) ∧ t 12 = eI a.length ∧ t 13 = eI k ∧ k ≤ a.length ∧ a.take k = b.take k
theorem same5_spec (a b : List PView) : ASpec Tryz.prog 33 [.sl .no (eVs a), .sl .no (eVs b)] (· = .v (.bool (decide (a = b)))) := by
  refine ASpec.of_awp Tryz.func33 (by kernel_rfl) rfl (by rw [Tryz.results33]) Tryz.ntmps33 ?_
  simp -implicitDefEqProofs
  intro h1 h2
  by_cases hl : a.length = b.length
  · simp -implicitDefEqProofs [hl]
    intro _
    refine loopK.intro (Sm5I a b) (fun t => a.length - natOf (t 13)) ?_ ?_
    · exact ⟨0, by simp, by simp, by simp [hl], by simp, by omega, by simp⟩
    rintro t hh ⟨k, g0, g1, g12, g13, hk, he⟩
    simp -implicitDefEqProofs [g12, g13]
    refine branch_dec (fun hlt => ?_) (fun hlt => ?_)
    · have hlt : k < a.length := by omega
      have hlt2 : k < b.length := by omega
      obtain ⟨x, hx⟩ : ∃ x, a[k]? = some x := ⟨a[k], by simp [hlt]⟩
      obtain ⟨y, hy⟩ : ∃ y, b[k]? = some y := ⟨b[k], by simp [hlt2]⟩
      have hj1 : IntKind.i64.wrap ((k : Int) + 1) = (k : Int) + 1 := w64 (by omega) (by omega)
      simp -implicitDefEqProofs [g13]
      refine regionK.intro 9 follows_mixed (by kernel_rfl) ?_
      simp -implicitDefEqProofs [g0, g1, g13, hx, hy, eV]
      refine branch_intro (fun hb2 => ?_) (fun hb2 => ?_)
      · have hne : x ≠ y := by rintro rfl; simp at hb2
        simp -implicitDefEqProofs
        rintro rfl
        rw [hx] at hy
        exact hne (Option.some.inj hy)
      · have hxy : x = y := by
          obtain ⟨a1, d1⟩ := x
          obtain ⟨a2, d2⟩ := y
          simp at hb2
          simp [hb2]
        simp -implicitDefEqProofs [g13, hj1]
        refine ⟨⟨k + 1, by simp [g0], by simp [g1], by simp [g12], by simp, by omega, ?_⟩, by omega⟩
        rw [List.take_add_one, List.take_add_one, he, hx, hy, hxy]
    · have hk' : k = a.length := by omega
      subst hk'
      simp -implicitDefEqProofs
      rw [List.take_length, hl, List.take_length] at he
      exact he
  · have hne : ¬ a = b := by rintro rfl; exact hl rfl
    have hl' : ¬ (a.length : Int) = b.length := by omega
    simp -implicitDefEqProofs [hl, hl', hne]
/-- how many rows -/
def rowsN (x : AV) : Nat := match x with | .sl _ r => r.length | _ => 0
def SrI (s : PState) (b1 tl tn ti : Nat) (rows : List (List AV)) (vs pre : List PView) (t : Nat → AV) (h : Nat → Option (List AV)) : Prop := ∃ (k : Nat) (tag : Tag), t 1 = .ptr b1 0 ∧ h b1 = some (eSt s) ∧ t tl = .sl .no rows ∧ t tn = eI vs.length ∧ t ti = eI k ∧ k ≤ vs.length ∧ t 3 = .sl tag (eVs (pre ++ vs.take k)) ∧ appOK tag 24 2
def SrM (s : PState) (b1 : Nat) (pre : List PView) (t : Nat → AV) (h : Nat → Option (List AV)) : Prop := ∃ tag : Tag, t 1 = .ptr b1 0 ∧ h b1 = some (eSt s) ∧ t 3 = .sl tag (eVs pre) ∧ appOK tag 24 2
def SoI (s : PState) (t : Nat → AV) (h : Nat → Option (List AV)) : Prop := ∃ (o : List PView) (tag tg : Tag), t 3 = .sl tg (eVs (allV s)) ∧ t 10 = .sl tag (eVs o) ∧ appOK tag 24 2 ∧ OutI (allV s) o
def SbI (s : PState) (o : List PView) (tag tg : Tag) (b2 : Nat) (t : Nat → AV) (h : Nat → Option (List AV)) : Prop := ∃ k : Nat, t 3 = .sl tg (eVs (allV s)) ∧ t 10 = .sl tag (eVs o) ∧ t 11 = .ptr b2 0 ∧ t 59 = .sl .no (eVs (allV s)) ∧ t 60 = eI (allV s).length ∧ t 61 = eI k ∧ k ≤ (allV s).length ∧ t 12 = .v (.bool (nextV o ((allV s).take k)).isSome) ∧ h b2 = some (eV ((nextV o ((allV s).take k)).getD ⟨0, 0⟩))
def SbM (s : PState) (o : List PView) (tag tg : Tag) (b2 : Nat) (t : Nat → AV) (h : Nat → Option (List AV)) : Prop := t 3 = .sl tg (eVs (allV s)) ∧ t 10 = .sl tag (eVs o) ∧ t 11 = .ptr b2 0 ∧ t 12 = .v (.bool (nextV o (allV s)).isSome) ∧ h b2 = some (eV ((nextV o (allV s)).getD ⟨0, 0⟩))
theorem last_or (o : List PView) : o = [] ∨ ∃ y m, o.length = m + 1 ∧ o[m]? = some y ∧ o.getLast? = some y := by
  cases hl : o.getLast? with
  | none => rw [List.getLast?_eq_none_iff] at hl; exact .inl hl
  | some y =>
    obtain ⟨ys, rfl⟩ := List.getLast?_eq_some_iff.1 hl
    exact .inr ⟨y, ys.length, by simp, by simp, rfl⟩
theorem seen12r_spec (s : PState) (hr : ∀ x ∈ allV s, rightV x = true) (hl : (allV s).length ≤ 1000000) : ASpec Tryz.prog 35 [.agg (eSt s)] (fun r => ∃ tag, r = .sl tag (eVs (seenV s))) := by
  refine ASpec.of_awp Tryz.func35 (by kernel_rfl) rfl (by rw [Tryz.results35]) Tryz.ntmps35 ?_
  have hl2 : 1 + s.books.length + s.cells.length + s.intents.length ≤ 1000000 := by simp [allV] at hl; omega
  simp -implicitDefEqProofs [eSt]
  refine allocK.intro (fun b1 hb1 => ?_)
  simp -implicitDefEqProofs
  refine bsK.std ?_
  obtain ⟨pre, hp⟩ : ∃ pre, pre = [s.held] := ⟨_, rfl⟩
  have hpl : pre.length = 1 := by rw [hp]; rfl
  simp -implicitDefEqProofs
  intro _
  refine loopK.post (SrI s b1 19 20 21 (rowsVB s.books) (s.books.map (·.view)) pre) (fun t => s.books.length - natOf (t 21)) (SrM s b1 (pre ++ s.books.map (·.view))) ?_ ?_ ?_
  · exact ⟨0, _, by simp, by simp [eSt], by simp [rowsVB], by simp, by simp, by omega, by simp [hp, eVs, eV]; rfl, by simp⟩
  · clear hb1
    rintro t hh ⟨k, tag, g1, e1, gs, gl, gi, hk, g3, gt⟩
    rw [List.length_map] at gl hk
    by_cases hlt : k < s.books.length
    · have hlt' : (k : Int) < (s.books.length : Int) := by omega
      obtain ⟨x, hx⟩ : ∃ x, s.books[k]? = some x := ⟨s.books[k], by simp [hlt]⟩
      have hw : IntKind.i64.wrap ((k : Int) + 1) = ((k + 1 : Nat) : Int) := by rw [w64 (by omega) (by omega)] <;> omega
      have hnext : pre ++ (s.books.map (·.view)).take (k + 1) = pre ++ (s.books.map (·.view)).take k ++ [x.view] := by rw [List.take_add_one, List.getElem?_map, hx, List.append_assoc]; rfl
      have hcl : (pre ++ (s.books.map (·.view)).take k).length ≤ 1000000 := by simp; omega
      generalize pre ++ (s.books.map (·.view)).take k = cur at *
      simp -implicitDefEqProofs [gs, gl, gi, hlt', hx, eVB]
      refine allocK.intro (fun b2 hb2 => ?_)
      have n3 : ¬ b2 = b1 := by rintro rfl; rw [e1] at hb2; simp at hb2
      have n4 : ¬ b1 = b2 := fun h => n3 h.symm
      simp -implicitDefEqProofs [g3, gt, n3, n4]
      refine ⟨by omega, ?_⟩
      simp -implicitDefEqProofs [gi, hw]
      exact ⟨⟨k + 1, appTag tag 24 2 [eV x.view], by simp [g1], by simp [n3, n4, e1], by simp [gs], by simp [gl], by simp, by simp; omega, by rw [hnext]; simp [eVs, eV], by simp [gt]⟩, by omega⟩
    · have hlt' : ¬ (k : Int) < (s.books.length : Int) := by omega
      rw [List.take_of_length_le (by simp; omega)] at g3
      simp -implicitDefEqProofs [gl, gi, hlt']
      exact ⟨tag, by simp [g1], e1, by simp [g3], gt⟩
  rintro t hh ⟨tag, g1, e1, g3, gt⟩
  obtain ⟨preB, hp1⟩ : ∃ preB, preB = pre ++ s.books.map (·.view) := ⟨_, rfl⟩
  have hpl1 : preB.length = 1 + s.books.length := by rw [hp1]; simp; omega
  rw [← hp1] at g3
  have e1' := e1
  rw [eSt] at e1'
  simp -implicitDefEqProofs [g1, e1']
  intro _
  refine loopK.post (SrI s b1 32 33 34 (rowsVC s.cells) (s.cells.map (·.view)) preB) (fun t => s.cells.length - natOf (t 34)) (SrM s b1 (preB ++ s.cells.map (·.view))) ?_ ?_ ?_
  · exact ⟨0, tag, by simp [g1], by simp [e1], by simp [rowsVC], by simp, by simp, by omega, by simp [g3], by simp [gt]⟩
  · clear g1 e1 g3 gt e1'
    rintro t hh ⟨k, tag, g1, e1, gs, gl, gi, hk, g3, gt⟩
    rw [List.length_map] at gl hk
    by_cases hlt : k < s.cells.length
    · have hlt' : (k : Int) < (s.cells.length : Int) := by omega
      obtain ⟨x, hx⟩ : ∃ x, s.cells[k]? = some x := ⟨s.cells[k], by simp [hlt]⟩
      have hw : IntKind.i64.wrap ((k : Int) + 1) = ((k + 1 : Nat) : Int) := by rw [w64 (by omega) (by omega)] <;> omega
      have hnext : preB ++ (s.cells.map (·.view)).take (k + 1) = preB ++ (s.cells.map (·.view)).take k ++ [x.view] := by rw [List.take_add_one, List.getElem?_map, hx, List.append_assoc]; rfl
      have hcl : (preB ++ (s.cells.map (·.view)).take k).length ≤ 1000000 := by simp; omega
      generalize preB ++ (s.cells.map (·.view)).take k = cur at *
      simp -implicitDefEqProofs [gs, gl, gi, hlt', hx, eVC]
      refine allocK.intro (fun b2 hb2 => ?_)
      have n3 : ¬ b2 = b1 := by rintro rfl; rw [e1] at hb2; simp at hb2
      have n4 : ¬ b1 = b2 := fun h => n3 h.symm
      simp -implicitDefEqProofs [g3, gt, n3, n4]
      refine ⟨by omega, ?_⟩
      simp -implicitDefEqProofs [gi, hw]
      exact ⟨⟨k + 1, appTag tag 24 2 [eV x.view], by simp [g1], by simp [n3, n4, e1], by simp [gs], by simp [gl], by simp, by simp; omega, by rw [hnext]; simp [eVs, eV], by simp [gt]⟩, by omega⟩
    · have hlt' : ¬ (k : Int) < (s.cells.length : Int) := by omega
      rw [List.take_of_length_le (by simp; omega)] at g3
      simp -implicitDefEqProofs [gl, gi, hlt']
      exact ⟨tag, by simp [g1], e1, by simp [g3], gt⟩
  rintro t hh ⟨tag, g1, e1, g3, gt⟩
  obtain ⟨preC, hp2⟩ : ∃ preC, preC = preB ++ s.cells.map (·.view) := ⟨_, rfl⟩
  have hpl2 : preC.length = 1 + s.books.length + s.cells.length := by rw [hp2]; simp; omega
  rw [← hp2] at g3
  have e1' := e1
  rw [eSt] at e1'
  simp -implicitDefEqProofs [g1, e1']
  intro _
  refine loopK.post (SrI s b1 45 46 47 (rowsVI s.intents) (s.intents.map (·.view)) preC) (fun t => s.intents.length - natOf (t 47)) (SrM s b1 (preC ++ s.intents.map (·.view))) ?_ ?_ ?_
  · exact ⟨0, tag, by simp [g1], by simp [e1], by simp [rowsVI], by simp, by simp, by omega, by simp [g3], by simp [gt]⟩
  · clear g1 e1 g3 gt e1'
    rintro t hh ⟨k, tag, g1, e1, gs, gl, gi, hk, g3, gt⟩
    rw [List.length_map] at gl hk
    by_cases hlt : k < s.intents.length
    · have hlt' : (k : Int) < (s.intents.length : Int) := by omega
      obtain ⟨x, hx⟩ : ∃ x, s.intents[k]? = some x := ⟨s.intents[k], by simp [hlt]⟩
      have hw : IntKind.i64.wrap ((k : Int) + 1) = ((k + 1 : Nat) : Int) := by rw [w64 (by omega) (by omega)] <;> omega
      have hnext : preC ++ (s.intents.map (·.view)).take (k + 1) = preC ++ (s.intents.map (·.view)).take k ++ [x.view] := by rw [List.take_add_one, List.getElem?_map, hx, List.append_assoc]; rfl
      have hcl : (preC ++ (s.intents.map (·.view)).take k).length ≤ 1000000 := by simp; omega
      generalize preC ++ (s.intents.map (·.view)).take k = cur at *
      simp -implicitDefEqProofs [gs, gl, gi, hlt', hx, eVI]
      refine allocK.intro (fun b2 hb2 => ?_)
      have n3 : ¬ b2 = b1 := by rintro rfl; rw [e1] at hb2; simp at hb2
      have n4 : ¬ b1 = b2 := fun h => n3 h.symm
      simp -implicitDefEqProofs [g3, gt, n3, n4]
      refine ⟨by omega, ?_⟩
      simp -implicitDefEqProofs [gi, hw]
      exact ⟨⟨k + 1, appTag tag 24 2 [eV x.view], by simp [g1], by simp [n3, n4, e1], by simp [gs], by simp [gl], by simp, by simp; omega, by rw [hnext]; simp [eVs, eV], by simp [gt]⟩, by omega⟩
    · have hlt' : ¬ (k : Int) < (s.intents.length : Int) := by omega
      rw [List.take_of_length_le (by simp; omega)] at g3
      simp -implicitDefEqProofs [gl, gi, hlt']
      exact ⟨tag, by simp [g1], e1, by simp [g3], gt⟩
  rintro t hh ⟨tag, g1, e1, g3, gt⟩
  have hall : preC ++ s.intents.map (·.view) = allV s := by rw [hp2, hp1, hp]; rfl
  rw [hall] at g3
  clear hp1 hp2 hall hp hpl hpl1 hpl2
  simp -implicitDefEqProofs [g3]
  refine bsK.std ?_
  simp -implicitDefEqProofs [g3]
  refine loopK.intro (SoI s) (fun t => (allV s).length + 1 - rowsN (t 10)) ?_ ?_
  · exact ⟨[], _, tag, by simp [g3], by simp [eVs]; rfl, by simp, List.Pairwise.nil, by simp, fun x _ => .inr rfl⟩
  clear g1 e1 g3 gt
  rintro t hh ⟨o, tag, tg, g3, g10, gt, ho⟩
  have hol := out_len ho
  have hm10 : rowsN (t 10) = o.length := by rw [g10]; simp [rowsN, eVs]
  rw [hm10]
  simp -implicitDefEqProofs
  refine allocK.intro (fun b2 hb2 => ?_)
  simp -implicitDefEqProofs [g3]
  intro _
  refine loopK.post (SbI s o tag tg b2) (fun t => (allV s).length - natOf (t 61)) (SbM s o tag tg b2) ?_ ?_ ?_
  · exact ⟨0, by simp [g3], by simp [g10], by simp, by simp, by simp, by simp, by omega, by simp [nextV], by simp [nextV, eV]⟩
  · clear g3 g10 hb2
    rintro t hh ⟨k, g3, g10, g11, g59, g60, g61, hk, g12, c2⟩
    by_cases hlt : k < (allV s).length
    · have hlt' : (k : Int) < ((allV s).length : Int) := by omega
      have hw : IntKind.i64.wrap ((k : Int) + 1) = ((k + 1 : Nat) : Int) := by rw [w64 (by omega) (by omega)] <;> omega
      obtain ⟨x, hx⟩ : ∃ x, (allV s)[k]? = some x := ⟨(allV s)[k], by simp [hlt]⟩
      have hxr := hr x (List.mem_of_getElem? hx)
      have hst := nextV_step (o := o) hx
      have hcr : ∀ b, nextV o ((allV s).take k) = some b → rightV b = true := fun b hb => hr b (List.mem_of_mem_take ((nextV_spec o ((allV s).take k) (fun x hx => hr x (List.mem_of_mem_take hx))).2 b hb).1)
      have hor : ∀ y ∈ o, rightV y = true := fun y hy => hr y (ho.2.1 y hy)
      generalize nextV o ((allV s).take k) = cur at *
      simp -implicitDefEqProofs [g59, g60, g61, hlt', hx, eV]
      refine allocK.intro (fun b3 hb3 => ?_)
      have n3 : ¬ b3 = b2 := by rintro rfl; rw [c2] at hb3; simp at hb3
      have n4 : ¬ b2 = b3 := fun h => n3 h.symm
      have c2' := c2
      rw [eV] at c2'
      simp -implicitDefEqProofs [n3, n4]
      refine regionK.intro 22 follows_mixed (by kernel_rfl) ?_
      have hnF : nextF o cur x = if afterO o x && lessO cur x then some x else cur := rfl
      have FIN : ∀ (r : Bool), r = (afterO o x && lessO cur x) → nextV o ((allV s).take (k + 1)) = if r then some x else cur := fun r h => by rw [hst, hnF, h]
      rcases last_or o with rfl | ⟨y, m, hm, hy, hly⟩
      · have ha : afterO [] x = true := rfl
        rw [ha] at FIN
        cases cur with
        | none =>
          have F2 := FIN true (by simp [lessO])
          simp -implicitDefEqProofs [g10, g12, eVs, g11, n3, n4, c2', g61, hw]
          exact ⟨⟨k + 1, by simp [g3], by simp [g10, eVs], by simp [g11], by simp [g59], by simp [g60], by simp, by omega, by simp [F2], by simp [F2, eV]⟩, by omega⟩
        | some b =>
          have hls := less5_spec x b hxr (hcr b rfl)
          simp -implicitDefEqProofs [g10, g12, eVs, g11, n3, n4, c2']
          refine CallQ.with hls (by simp [eV]) ?_
          cases h2 : lessV x b
          · have F2 := FIN false (by simp [lessO, h2])
            simp -implicitDefEqProofs [n3, n4, c2', g61, hw]
            exact ⟨⟨k + 1, by simp [g3], by simp [g10, eVs], by simp [g11], by simp [g59], by simp [g60], by simp, by omega, by simp [F2, g12], by simp [F2, c2, n3, n4]⟩, by omega⟩
          · have F2 := FIN true (by simp [lessO, h2])
            simp -implicitDefEqProofs [n3, n4, c2', g11, g61, hw]
            exact ⟨⟨k + 1, by simp [g3], by simp [g10, eVs], by simp [g11], by simp [g59], by simp [g60], by simp, by omega, by simp [F2], by simp [F2, eV]⟩, by omega⟩
      · have ha : afterO o x = lessV y x := by unfold afterO; rw [hly]
        rw [ha] at FIN
        have hm0 : ¬ ((m : Int) + 1 = 0) := by omega
        have hw1 : IntKind.i64.wrap (m : Int) = (m : Int) := w64 (by omega) (by omega)
        have hl1 := less5_spec y x (hor y (List.mem_of_getElem? hy)) hxr
        have hlI : (o.length : Int) = (m : Int) + 1 := by omega
        clear hm
        simp -implicitDefEqProofs [g10, hlI, hm0, hw1, hy, n3, n4, eV]
        refine CallQ.with hl1 (by simp [eV]) ?_
        cases h1 : lessV y x
        · have F2 := FIN false (by simp [lessO, h1])
          simp -implicitDefEqProofs [n3, n4, c2', g61, hw]
          exact ⟨⟨k + 1, by simp [g3], by simp [g10], by simp [g11], by simp [g59], by simp [g60], by simp, by omega, by simp [F2, g12], by simp [F2, c2, n3, n4]⟩, by omega⟩
        · cases cur with
          | none =>
            have F2 := FIN true (by simp [lessO, h1])
            simp -implicitDefEqProofs [g12, g11, n3, n4, c2', g61, hw]
            exact ⟨⟨k + 1, by simp [g3], by simp [g10], by simp [g11], by simp [g59], by simp [g60], by simp, by omega, by simp [F2], by simp [F2, eV]⟩, by omega⟩
          | some b =>
            have hls := less5_spec x b hxr (hcr b rfl)
            simp -implicitDefEqProofs [g12, g11, n3, n4, c2']
            refine CallQ.with hls (by simp [eV]) ?_
            cases h2 : lessV x b
            · have F2 := FIN false (by simp [lessO, h1, h2])
              simp -implicitDefEqProofs [n3, n4, c2', g61, hw]
              exact ⟨⟨k + 1, by simp [g3], by simp [g10], by simp [g11], by simp [g59], by simp [g60], by simp, by omega, by simp [F2, g12], by simp [F2, c2, n3, n4]⟩, by omega⟩
            · have F2 := FIN true (by simp [lessO, h1, h2])
              simp -implicitDefEqProofs [n3, n4, c2', g11, g61, hw]
              exact ⟨⟨k + 1, by simp [g3], by simp [g10], by simp [g11], by simp [g59], by simp [g60], by simp, by omega, by simp [F2], by simp [F2, eV]⟩, by omega⟩
    · have hlt' : ¬ (k : Int) < ((allV s).length : Int) := by omega
      rw [List.take_of_length_le (by omega)] at g12 c2
      simp -implicitDefEqProofs [g60, g61, hlt']
      exact ⟨by simp [g3], by simp [g10], by simp [g11], by simp [g12], c2⟩
  clear g3 g10 hb2
  rintro t hh ⟨g3, g10, g11, g12, c2⟩
  cases hn : nextV o (allV s) with
  | none =>
    have hso := seen_unique (out_done hr ho hn) (seenV_ok hr)
    rw [hn] at g12
    simp -implicitDefEqProofs [g12, g10, hso]
  | some b =>
    have hnx := out_next hr ho hn
    have hol2 := out_len hnx
    rw [List.length_append, List.length_singleton] at hol2
    rw [hn] at g12 c2
    rw [Option.getD_some, eV] at c2
    simp -implicitDefEqProofs [g12, g10, g11, c2, gt]
    refine ⟨by omega, ⟨o ++ [b], appTag tag 24 2 [eV b], tg, by simp [g3], by simp [eVs, eV], by simp [gt], hnx⟩, ?_⟩
    simp [rowsN, eVs]; omega
end Go.Proofs.YtjbbfiagijjdoaaGreat

/- Contracts: the document's intents and its state behind records. No condition. -/
set_option linter.unusedSimpArgs false
set_option linter.unusedVariables false
set_option maxRecDepth 10000
namespace Go.Proofs.YtjbbfiagijjdoaaGreat
open Go Go.Rw Go.Proofs
-- a goal is never to be run by the elaborator
attribute [local irreducible] awp aops aop aopsE aeff

def intentA' (o : Option PView) : AV := .tup [.agg (eV (o.getD ⟨0, 0⟩)), .v (.bool o.isSome)]
def InI (l : List PRec) (v : PView) (b1 b2 : Nat) (t : Nat → AV) (h : Nat → Option (List AV)) : Prop := ∃ k : Nat, t 3 = .ptr b1 0 ∧ t 4 = .ptr b2 0 ∧ t 8 = .sl .no (eRs l) ∧ t 9 = eI l.length ∧ t 10 = eI k ∧ k ≤ l.length ∧ h b1 = some (eV v) ∧ (∃ z, h b2 = some z ∧ z.length = 2) ∧ intentL (l.take k) v = none
def InM (l : List PRec) (v : PView) (b2 : Nat) (t : Nat → AV) (h : Nat → Option (List AV)) : Prop := t 4 = .ptr b2 0 ∧ (∃ z, h b2 = some z ∧ z.length = 2) ∧ intentL l v = none
theorem intentL_hit {l : List PRec} {k : Nat} {r : PRec} {v : PView} (hx : l[k]? = some r) (hn : intentL (l.take k) v = none) (h1 : r.kind = 5) (h2 : r.view = v) : intentL l v = some r.cell.change := by
  have hs := intentL_step (v := v) hx
  rw [if_pos ⟨h1, h2, hn⟩] at hs
  have e : l = l.take (k + 1) ++ l.drop (k + 1) := (List.take_append_drop _ _).symm
  unfold intentL at hs ⊢
  rw [e, List.find?_append]
  cases hf : (l.take (k + 1)).find? (fun r => decide (r.kind = 5 ∧ r.view = v)) with
  | none => rw [hf] at hs; simp at hs
  | some x => rw [hf] at hs; simpa using hs
theorem intent12_spec (l : List PRec) (v : PView) (hl : l.length ≤ 1000000000) : ASpec Tryz.prog 32 [.sl .no (eRs l), .agg (eV v)] (· = intentA' (intentL l v)) := by
  refine ASpec.of_awp Tryz.func32 (by kernel_rfl) rfl (by rw [Tryz.results32]) Tryz.ntmps32 ?_
  simp -implicitDefEqProofs [eV]
  refine allocK.intro (fun b1 hb1 => ?_)
  simp -implicitDefEqProofs
  refine allocK.intro (fun b2 hb2 => ?_)
  have n12 : ¬ b1 = b2 := by rintro rfl; simp at hb2
  have n21 : ¬ b2 = b1 := fun h => n12 h.symm
  simp -implicitDefEqProofs [n12, n21]
  intro _
  refine loopK.post (InI l v b1 b2) (fun t => l.length - natOf (t 10)) (InM l v b2) ?_ ?_ ?_
  · exact ⟨0, by simp, by simp, by simp, by simp, by simp, by omega, by simp [n12, eV], ⟨_, by simp; rfl, rfl⟩, by simp [intentL]⟩
  · rintro t hh ⟨k, g3, g4, g8, g9, g10, hk, e1, ⟨z, e2, hz⟩, hn⟩
    by_cases hlt : k < l.length
    · have hlt' : (k : Int) < (l.length : Int) := by omega
      have hw : IntKind.i64.wrap ((k : Int) + 1) = ((k + 1 : Nat) : Int) := by rw [w64 (by omega) (by omega)]; omega
      obtain ⟨r, hx⟩ : ∃ r, l[k]? = some r := ⟨l[k], by simp [hlt]⟩
      have hst := intentL_step (v := v) hx
      simp -implicitDefEqProofs [g8, g9, g10, hlt', hx, eRc]
      refine allocK.intro (fun b3 hb3 => ?_)
      have n13 : ¬ b1 = b3 := by rintro rfl; rw [e1] at hb3; simp at hb3
      have n31 : ¬ b3 = b1 := fun h => n13 h.symm
      have n23 : ¬ b2 = b3 := by rintro rfl; rw [e2] at hb3; simp at hb3
      have n32 : ¬ b3 = b2 := fun h => n23 h.symm
      have e1' := e1
      rw [eV] at e1'
      by_cases h1 : r.kind = 5
      · by_cases h2 : r.view.add = v.add
        · by_cases h3 : r.view.del = v.del
          · have hr := intentL_hit hx hn h1 (view_eq.2 ⟨h2, h3⟩)
            rw [hr]
            simp -implicitDefEqProofs [g3, g4, e1', e2, hz, n12, n21, n13, n31, n23, n32, h1, h2, h3, intentA', eV]
          · rw [if_neg (fun h => h3 (view_eq.1 h.2.1).2), hn] at hst
            have h3' : (r.view.del == v.del) = false := by simpa using h3
            simp -implicitDefEqProofs [g3, e1', n13, n31, h1, h2, h3, h3', g10, hw]
            exact ⟨⟨k + 1, by simp [g3], by simp [g4], by simp [g8], by simp [g9], by simp, by omega, by simp [n13, n31, e1], ⟨z, by simp [n23, e2], hz⟩, hst⟩, by omega⟩
        · rw [if_neg (fun h => h2 (view_eq.1 h.2.1).1), hn] at hst
          have h2' : (r.view.add == v.add) = false := by simpa using h2
          simp -implicitDefEqProofs [g3, e1', n13, n31, h1, h2, h2', g10, hw]
          exact ⟨⟨k + 1, by simp [g3], by simp [g4], by simp [g8], by simp [g9], by simp, by omega, by simp [n13, n31, e1], ⟨z, by simp [n23, e2], hz⟩, hst⟩, by omega⟩
      · rw [if_neg (fun h => h1 h.1), hn] at hst
        simp -implicitDefEqProofs [g3, n13, n31, h1, g10, hw]
        exact ⟨⟨k + 1, by simp [g3], by simp [g4], by simp [g8], by simp [g9], by simp, by omega, by simp [n13, n31, e1], ⟨z, by simp [n23, e2], hz⟩, hst⟩, by omega⟩
    · have hlt' : ¬ (k : Int) < (l.length : Int) := by omega
      rw [List.take_of_length_le (by omega)] at hn
      simp -implicitDefEqProofs [g9, g10, hlt']
      exact ⟨by simp [g4], ⟨z, e2, hz⟩, hn⟩
  rintro t hh ⟨g4, ⟨z, e2, hz⟩, hn⟩
  rw [hn]
  simp -implicitDefEqProofs [g4, e2, hz, intentA', eV]
def OfB (h i a : Int × Int) (b5 : Nat) : Prop := True
end Go.Proofs.YtjbbfiagijjdoaaGreat

/- Contract: the document's state behind records. No condition. -/
set_option linter.unusedSimpArgs false
set_option linter.unusedVariables false
set_option maxRecDepth 10000
namespace Go.Proofs.YtjbbfiagijjdoaaGreat
open Go Go.Rw Go.Proofs
-- a goal is never to be run by the elaborator
attribute [local irreducible] awp aops aop aopsE aeff

theorem CallQ.take2 {P : Program} {g : FuncId} {args args' : List AV} {K R : AV → Prop} {x : AV} (h : ASpec P g args' R) (ha : args = args') (hr : ∀ r, R r → dead1 r = x) (hk : K x) : @CallQ P g args ⟨K⟩ := by
  subst ha
  exact .of h hr hk
def eSt3 (t1 t2 t3 : Tag) (s : PState) : List AV := [.sl t1 (rowsVB s.books), .sl t2 (rowsVC s.cells), .sl t3 (rowsVI s.intents), eI s.held.add, eI s.held.del, eI s.inc, eI s.last]
def headL (v : PView) (l : List PRec) : PState := ⟨[], [], [], heldL v l, incL l, lastL l⟩
def OfI1 (v : PView) (l : List PRec) (b2 b3 : Nat) (t : Nat → AV) (h : Nat → Option (List AV)) : Prop := ∃ k : Nat, t 1 = .sl .no (eRs l) ∧ t 4 = .ptr b2 0 ∧ t 5 = .ptr b3 0 ∧ t 16 = .sl .no (eRs l) ∧ t 17 = eI l.length ∧ t 18 = eI k ∧ k ≤ l.length ∧ (∃ z, h b2 = some z ∧ z.length = 7) ∧ h b3 = some (eSt3 .nil .nil .nil (headL v (l.take k)))
def OfM1 (v : PView) (l : List PRec) (b2 b3 : Nat) (t : Nat → AV) (h : Nat → Option (List AV)) : Prop := t 1 = .sl .no (eRs l) ∧ t 4 = .ptr b2 0 ∧ t 5 = .ptr b3 0 ∧ (∃ z, h b2 = some z ∧ z.length = 7) ∧ h b3 = some (eSt3 .nil .nil .nil (headL v l))
def partL (v : PView) (l : List PRec) (vs : List PView) : PState := ⟨vs.filterMap (bookV l), vs.filterMap (cellsV l), vs.filterMap (intentV l), heldL v l, incL l, lastL l⟩
def OfI2 (v : PView) (l : List PRec) (vs : List PView) (b2 b3 : Nat) (t : Nat → AV) (h : Nat → Option (List AV)) : Prop := ∃ (k : Nat) (t1 t2 t3 tv : Tag), t 1 = .sl .no (eRs l) ∧ t 4 = .ptr b2 0 ∧ t 5 = .ptr b3 0 ∧ t 63 = .sl tv (eVs vs) ∧ t 64 = eI vs.length ∧ t 65 = eI k ∧ k ≤ vs.length ∧ (∃ z, h b2 = some z ∧ z.length = 7) ∧ h b3 = some (eSt3 t1 t2 t3 (partL v l (vs.take k))) ∧ appOK t1 89 3 ∧ appOK t2 91 3 ∧ appOK t3 93 4
def OfM2 (v : PView) (l : List PRec) (vs : List PView) (b2 b3 : Nat) (t : Nat → AV) (h : Nat → Option (List AV)) : Prop := ∃ (t1 t2 t3 : Tag), t 4 = .ptr b2 0 ∧ t 5 = .ptr b3 0 ∧ (∃ z, h b2 = some z ∧ z.length = 7) ∧ h b3 = some (eSt3 t1 t2 t3 (partL v l vs))
theorem of12_spec (v : PView) (l : List PRec) (hv : rightV v = true) (hl : ∀ r ∈ l, rightR r = true) (hn : l.length ≤ 1000000000) : ASpec Tryz.prog 24 [.agg (eV v), .sl .no (eRs l)] (· = .agg (eSt (stateL v l))) := by
  refine ASpec.of_awp Tryz.func24 (by kernel_rfl) rfl (by rw [Tryz.results24]) Tryz.ntmps24 ?_
  simp -implicitDefEqProofs [eV]
  refine allocK.intro (fun b1 hb1 => ?_)
  simp -implicitDefEqProofs
  refine allocK.intro (fun b2 hb2 => ?_)
  have n12 : ¬ b1 = b2 := by rintro rfl; simp at hb2
  have n21 : ¬ b2 = b1 := fun h => n12 h.symm
  simp -implicitDefEqProofs [n12, n21]
  refine allocK.intro (fun b3 hb3 => ?_)
  have n13 : ¬ b1 = b3 := by rintro rfl; simp [n12] at hb3
  have n31 : ¬ b3 = b1 := fun h => n13 h.symm
  have n23 : ¬ b2 = b3 := by rintro rfl; simp at hb3
  have n32 : ¬ b3 = b2 := fun h => n23 h.symm
  simp -implicitDefEqProofs [n12, n21, n13, n31, n23, n32]
  intro _
  refine loopK.post (OfI1 v l b2 b3) (fun t => l.length - natOf (t 18)) (OfM1 v l b2 b3) ?_ ?_ ?_
  · exact ⟨0, by simp, by simp, by simp, by simp, by simp, by simp, by omega, ⟨_, by simp [n12, n21, n13, n31, n23, n32]; rfl, rfl⟩, by simp [eSt3, headL, heldL, incL, lastL, rowsVB, rowsVC, rowsVI]⟩
  · rintro t hh ⟨k, g1, g4, g5, g16, g17, g18, hk, ⟨z, c2, hz⟩, c3⟩
    by_cases hlt : k < l.length
    · have hlt' : (k : Int) < (l.length : Int) := by omega
      have hw : IntKind.i64.wrap ((k : Int) + 1) = ((k + 1 : Nat) : Int) := by rw [w64 (by omega) (by omega)]; omega
      obtain ⟨r, hx⟩ : ∃ r, l[k]? = some r := ⟨l[k], by simp [hlt]⟩
      have hrr := hl r (List.mem_of_getElem? hx)
      have hhr : rightV (heldL v (l.take k)) = true := by
        have := (tells_fold hv hl k hk).held
        rw [← this]
        exact (okT_fold hv hl k hk).rh
      have s1 := heldL_step (v := v) hx
      have s2 := lastL_step hx
      have s3 := incL_step hx
      have hwi := within4_spec (heldL v (l.take k)) r.view hhr (right_cell hrr).1
      unfold headL at c3
      have e9 : headL v (l.take (k + 1)) = ⟨[], [], [], heldL v (l.take (k + 1)), incL (l.take (k + 1)), lastL (l.take (k + 1))⟩ := rfl
      generalize heldL v (l.take k) = he at *
      generalize lastL (l.take k) = la at *
      generalize incL (l.take k) = ic at *
      simp -implicitDefEqProofs [g16, g17, g18, hlt', hx, eRc]
      refine allocK.intro (fun b4 hb4 => ?_)
      have n24 : ¬ b2 = b4 := by rintro rfl; rw [c2] at hb4; simp at hb4
      have n42 : ¬ b4 = b2 := fun h => n24 h.symm
      have n34 : ¬ b3 = b4 := by rintro rfl; rw [c3] at hb4; simp at hb4
      have n43 : ¬ b4 = b3 := fun h => n34 h.symm
      rw [eSt3] at c3
      by_cases k3 : r.kind = 3
      · rw [if_neg (by omega)] at s2 s3
        simp -implicitDefEqProofs [g5, c3, n34, n43, k3]
        refine CallK.with hwi (by simp [eV]) ?_
        cases hi : withinV he r.view
        · rw [if_neg (by rw [hi]; simp)] at s1
          simp -implicitDefEqProofs [g5, c3, n34, n43, k3, g18, hw]
          exact ⟨⟨k + 1, by simp [g1], by simp [g4], by simp [g5], by simp [g16], by simp [g17], by simp, by omega, ⟨z, by simp [n24, n23, c2], hz⟩, by rw [e9, s1, s2, s3]; simp [n34, n43, c3, eSt3, rowsVB, rowsVC, rowsVI]⟩, by omega⟩
        · rw [if_pos ⟨k3, hi⟩] at s1
          simp -implicitDefEqProofs [g5, c3, n34, n43, k3, g18, hw]
          exact ⟨⟨k + 1, by simp [g1], by simp [g4], by simp [g5], by simp [g16], by simp [g17], by simp, by omega, ⟨z, by simp [n24, n23, c2], hz⟩, by rw [e9, s1, s2, s3]; simp [eSt3, rowsVB, rowsVC, rowsVI]⟩, by omega⟩
      · rw [if_neg (fun h => k3 h.1)] at s1
        by_cases k4 : r.kind = 4
        · rw [if_neg (by omega)] at s3
          by_cases hi : la < r.n
          · rw [if_pos ⟨k4, hi⟩] at s2
            simp -implicitDefEqProofs [g5, c3, n34, n43, k3, k4, hi, g18, hw]
            exact ⟨⟨k + 1, by simp [g1], by simp [g4], by simp [g5], by simp [g16], by simp [g17], by simp, by omega, ⟨z, by simp [n24, n23, c2], hz⟩, by rw [e9, s1, s2, s3]; simp [eSt3, rowsVB, rowsVC, rowsVI]⟩, by omega⟩
          · rw [if_neg (fun h => hi h.2)] at s2
            simp -implicitDefEqProofs [g5, c3, n34, n43, k3, k4, hi, g18, hw]
            exact ⟨⟨k + 1, by simp [g1], by simp [g4], by simp [g5], by simp [g16], by simp [g17], by simp, by omega, ⟨z, by simp [n24, n23, c2], hz⟩, by rw [e9, s1, s2, s3]; simp [n34, n43, c3, eSt3, rowsVB, rowsVC, rowsVI]⟩, by omega⟩
        · rw [if_neg (fun h => k4 h.1)] at s2
          by_cases k6 : r.kind = 6
          · by_cases hi : ic < r.n
            · rw [if_pos ⟨k6, hi⟩] at s3
              simp -implicitDefEqProofs [g5, c3, n34, n43, k3, k4, k6, hi, g18, hw]
              exact ⟨⟨k + 1, by simp [g1], by simp [g4], by simp [g5], by simp [g16], by simp [g17], by simp, by omega, ⟨z, by simp [n24, n23, c2], hz⟩, by rw [e9, s1, s2, s3]; simp [eSt3, rowsVB, rowsVC, rowsVI]⟩, by omega⟩
            · rw [if_neg (fun h => hi h.2)] at s3
              simp -implicitDefEqProofs [g5, c3, n34, n43, k3, k4, k6, hi, g18, hw]
              exact ⟨⟨k + 1, by simp [g1], by simp [g4], by simp [g5], by simp [g16], by simp [g17], by simp, by omega, ⟨z, by simp [n24, n23, c2], hz⟩, by rw [e9, s1, s2, s3]; simp [n34, n43, c3, eSt3, rowsVB, rowsVC, rowsVI]⟩, by omega⟩
          · rw [if_neg (fun h => k6 h.1)] at s3
            simp -implicitDefEqProofs [g5, c3, n34, n43, k3, k4, k6, g18, hw]
            exact ⟨⟨k + 1, by simp [g1], by simp [g4], by simp [g5], by simp [g16], by simp [g17], by simp, by omega, ⟨z, by simp [n24, n23, c2], hz⟩, by rw [e9, s1, s2, s3]; simp [n34, n43, c3, eSt3, rowsVB, rowsVC, rowsVI]⟩, by omega⟩
    · have hlt' : ¬ (k : Int) < (l.length : Int) := by omega
      rw [List.take_of_length_le (by omega)] at c3
      simp -implicitDefEqProofs [g17, g18, hlt']
      exact ⟨by simp [g1], by simp [g4], by simp [g5], ⟨z, c2, hz⟩, c3⟩
  rintro t hh ⟨g1, g4, g5, ⟨z, c2, hz⟩, c3⟩
  have hvs := views12_spec l (fun r hr => (right_cell (hl r hr)).1) hn
  have hvl := viewsTo_len l 4096
  unfold stateL
  generalize viewsTo l 4096 = vs at *
  simp -implicitDefEqProofs [g1]
  refine CallK.via hvs (by simp) ?_
  rintro _ ⟨tag, rfl⟩
  simp -implicitDefEqProofs
  intro _
  refine loopK.post (OfI2 v l vs b2 b3) (fun t => vs.length - natOf (t 65)) (OfM2 v l vs b2 b3) ?_ ?_ ?_
  · exact ⟨0, .nil, .nil, .nil, tag, by simp [g1], by simp [g4], by simp [g5], by simp, by simp, by simp, by omega, ⟨z, c2, hz⟩, by rw [c3]; rfl, by simp, by simp, by simp⟩
  · rintro t hh ⟨k, t1, t2, t3, tv, g1, g4, g5, g63, g64, g65, hk, ⟨z, c2, hz⟩, c3, a1, a2, a3⟩
    by_cases hlt : k < vs.length
    · have hlt' : (k : Int) < (vs.length : Int) := by omega
      have hw : IntKind.i64.wrap ((k : Int) + 1) = ((k + 1 : Nat) : Int) := by rw [w64 (by omega) (by omega)]; omega
      obtain ⟨u, hx⟩ : ∃ u, vs[k]? = some u := ⟨vs[k], by simp [hlt]⟩
      have hst : ∀ {α : Type} (f : PView → Option α), (vs.take (k + 1)).filterMap f = (vs.take k).filterMap f ++ (f u).toList := fun f => by
        rw [List.take_add_one, hx, List.filterMap_append]
        cases hf : f u <;> simp [hf]
      have hlen : ∀ {α : Type} (f : PView → Option α), ((vs.take k).filterMap f).length ≤ 4096 := fun f => by
        have := List.length_filterMap_le f (vs.take k)
        rw [List.length_take] at this; omega
      have hb := hst (bookV l)
      have hc := hst (cellsV l)
      have hi := hst (intentV l)
      have lb := hlen (bookV l)
      have lc := hlen (cellsV l)
      have li := hlen (intentV l)
      have e9 : partL v l (vs.take (k + 1)) = ⟨(vs.take (k + 1)).filterMap (bookV l), (vs.take (k + 1)).filterMap (cellsV l), (vs.take (k + 1)).filterMap (intentV l), heldL v l, incL l, lastL l⟩ := rfl
      have hbk := book12_spec l u hn
      have hce := cells12_spec l u hn
      have hin := intent12_spec l u hn
      unfold partL at c3
      rw [eSt3] at c3
      rw [show bookV l u = if bookL l u = [] then none else some ⟨u, bookL l u⟩ from rfl] at hb
      rw [show cellsV l u = if cellsL l u = [] then none else some ⟨u, cellsL l u⟩ from rfl] at hc
      rw [show intentV l u = (intentL l u).map (fun c => ⟨u, c⟩) from rfl] at hi
      generalize hB : (vs.take k).filterMap (bookV l) = B at *
      generalize hC : (vs.take k).filterMap (cellsV l) = C at *
      generalize hI : (vs.take k).filterMap (intentV l) = I at *
      simp -implicitDefEqProofs [g63, g64, g65, hlt', hx, eV]
      refine allocK.intro (fun b4 hb4 => ?_)
      have n24 : ¬ b2 = b4 := by rintro rfl; rw [c2] at hb4; simp at hb4
      have n42 : ¬ b4 = b2 := fun h => n24 h.symm
      have n34 : ¬ b3 = b4 := by rintro rfl; rw [c3] at hb4; simp at hb4
      have n43 : ¬ b4 = b3 := fun h => n34 h.symm
      simp -implicitDefEqProofs [n34, n43]
      refine regionK.intro 7 follows_mixed (by kernel_rfl) ?_
      simp -implicitDefEqProofs [g1]
      refine CallQ.take2 (x := .sl .no (eEs (bookL l u))) hbk (by simp [eV]) (by rintro _ ⟨tag, rfl⟩; rfl) ?_
      simp -implicitDefEqProofs [g1]
      refine CallQ.take2 (x := .sl .no (eCs (cellsL l u))) hce (by simp [eV]) (by rintro _ ⟨tag, rfl⟩; rfl) ?_
      simp -implicitDefEqProofs [g1, n34, n43]
      intro _
      by_cases hbk0 : bookL l u = []
      · rw [if_pos hbk0] at hb
        simp only [Option.toList_none, List.append_nil] at hb
        simp -implicitDefEqProofs [n24, n42, n34, n43, n23, n32, hbk0]
        intro _
        by_cases hce0 : cellsL l u = []
        · rw [if_pos hce0] at hc
          simp only [Option.toList_none, List.append_nil] at hc
          simp -implicitDefEqProofs [g1, n24, n42, n34, n43, n23, n32, hce0]
          refine CallK.with hin (by simp [eV]) ?_
          cases hic : intentL l u with
          | none =>
            rw [hic] at hi
            simp only [Option.map_none, Option.toList_none, List.append_nil] at hi
            rw [intentA']
            simp -implicitDefEqProofs [n24, n42, n34, n43, n23, n32, eV]
            refine allocK.intro (fun b5 hb5 => ?_)
            have n25 : ¬ b2 = b5 := by rintro rfl; simp [n24, n42, n34, n43, n23, n32, c2] at hb5
            have n52 : ¬ b5 = b2 := fun h => n25 h.symm
            have n35 : ¬ b3 = b5 := by rintro rfl; simp [n24, n42, n34, n43, n23, n32, c3] at hb5
            have n53 : ¬ b5 = b3 := fun h => n35 h.symm
            have n45 : ¬ b4 = b5 := by rintro rfl; simp [n24, n42, n34, n43, n23, n32] at hb5
            have n54 : ¬ b5 = b4 := fun h => n45 h.symm
            simp -implicitDefEqProofs [n24, n42, n34, n43, n23, n32, n25, n52, n35, n53, n45, n54]
            simp -implicitDefEqProofs [g65, hw]
            exact ⟨⟨k + 1, t1, t2, t3, tv, by simp [g1], by simp [g4], by simp [g5], by simp [g63], by simp [g64], by simp, by omega, ⟨z, by simp [n24, n42, n34, n43, n23, n32, n25, n52, n35, n53, n45, n54, c2], hz⟩, by rw [e9, hb, hc, hi]; simp [n24, n42, n34, n43, n23, n32, n25, n52, n35, n53, n45, n54, c3, eSt3, rowsVB, rowsVC, rowsVI, eVB, eVC, eVI], by simp [a1], by simp [a2], by simp [a3]⟩, by omega⟩
          | some c =>
            rw [hic] at hi
            simp only [Option.map_some, Option.toList_some] at hi
            rw [intentA']
            simp -implicitDefEqProofs [n24, n42, n34, n43, n23, n32, eV]
            refine allocK.intro (fun b5 hb5 => ?_)
            have n25 : ¬ b2 = b5 := by rintro rfl; simp [n24, n42, n34, n43, n23, n32, c2] at hb5
            have n52 : ¬ b5 = b2 := fun h => n25 h.symm
            have n35 : ¬ b3 = b5 := by rintro rfl; simp [n24, n42, n34, n43, n23, n32, c3] at hb5
            have n53 : ¬ b5 = b3 := fun h => n35 h.symm
            have n45 : ¬ b4 = b5 := by rintro rfl; simp [n24, n42, n34, n43, n23, n32] at hb5
            have n54 : ¬ b5 = b4 := fun h => n45 h.symm
            simp -implicitDefEqProofs [n24, n42, n34, n43, n23, n32, n25, n52, n35, n53, n45, n54, g5, c3, a3, rowsVI, eV]
            refine ⟨⟨fun _ _ => rfl, by omega⟩, ?_⟩
            simp -implicitDefEqProofs [g65, hw]
            exact ⟨⟨k + 1, t1, t2, appTag t3 93 4 [eVI ⟨u, c⟩], tv, by simp [g1], by simp [g4], by simp [g5], by simp [g63], by simp [g64], by simp, by omega, ⟨z, by simp [n24, n42, n34, n43, n23, n32, n25, n52, n35, n53, n45, n54, c2], hz⟩, by rw [e9, hb, hc, hi]; simp [n24, n42, n34, n43, n23, n32, n25, n52, n35, n53, n45, n54, c3, eSt3, rowsVB, rowsVC, rowsVI, eVB, eVC, eVI], by simp [a1], by simp [a2], by simp [a3]⟩, by omega⟩
        · rw [if_neg hce0] at hc
          simp only [Option.toList_some] at hc
          have hpos : 0 < (cellsL l u).length := List.length_pos_iff.2 hce0
          simp -implicitDefEqProofs [g1, n24, n42, n34, n43, n23, n32, hpos, g5, c3, a2, rowsVC, eV]
          refine ⟨⟨fun _ _ => rfl, by omega⟩, ?_⟩
          refine CallK.with hin (by simp [eV]) ?_
          cases hic : intentL l u with
          | none =>
            rw [hic] at hi
            simp only [Option.map_none, Option.toList_none, List.append_nil] at hi
            rw [intentA']
            simp -implicitDefEqProofs [n24, n42, n34, n43, n23, n32, eV]
            refine allocK.intro (fun b5 hb5 => ?_)
            have n25 : ¬ b2 = b5 := by rintro rfl; simp [n24, n42, n34, n43, n23, n32, c2] at hb5
            have n52 : ¬ b5 = b2 := fun h => n25 h.symm
            have n35 : ¬ b3 = b5 := by rintro rfl; simp [n24, n42, n34, n43, n23, n32, c3] at hb5
            have n53 : ¬ b5 = b3 := fun h => n35 h.symm
            have n45 : ¬ b4 = b5 := by rintro rfl; simp [n24, n42, n34, n43, n23, n32] at hb5
            have n54 : ¬ b5 = b4 := fun h => n45 h.symm
            simp -implicitDefEqProofs [n24, n42, n34, n43, n23, n32, n25, n52, n35, n53, n45, n54]
            simp -implicitDefEqProofs [g65, hw]
            exact ⟨⟨k + 1, t1, appTag t2 91 3 [eVC ⟨u, cellsL l u⟩], t3, tv, by simp [g1], by simp [g4], by simp [g5], by simp [g63], by simp [g64], by simp, by omega, ⟨z, by simp [n24, n42, n34, n43, n23, n32, n25, n52, n35, n53, n45, n54, c2], hz⟩, by rw [e9, hb, hc, hi]; simp [n24, n42, n34, n43, n23, n32, n25, n52, n35, n53, n45, n54, c3, eSt3, rowsVB, rowsVC, rowsVI, eVB, eVC, eVI], by simp [a1], by simp [a2], by simp [a3]⟩, by omega⟩
          | some c =>
            rw [hic] at hi
            simp only [Option.map_some, Option.toList_some] at hi
            rw [intentA']
            simp -implicitDefEqProofs [n24, n42, n34, n43, n23, n32, eV]
            refine allocK.intro (fun b5 hb5 => ?_)
            have n25 : ¬ b2 = b5 := by rintro rfl; simp [n24, n42, n34, n43, n23, n32, c2] at hb5
            have n52 : ¬ b5 = b2 := fun h => n25 h.symm
            have n35 : ¬ b3 = b5 := by rintro rfl; simp [n24, n42, n34, n43, n23, n32, c3] at hb5
            have n53 : ¬ b5 = b3 := fun h => n35 h.symm
            have n45 : ¬ b4 = b5 := by rintro rfl; simp [n24, n42, n34, n43, n23, n32] at hb5
            have n54 : ¬ b5 = b4 := fun h => n45 h.symm
            simp -implicitDefEqProofs [n24, n42, n34, n43, n23, n32, n25, n52, n35, n53, n45, n54, g5, c3, a3, rowsVI, eV]
            refine ⟨⟨fun _ _ => rfl, by omega⟩, ?_⟩
            simp -implicitDefEqProofs [g65, hw]
            exact ⟨⟨k + 1, t1, appTag t2 91 3 [eVC ⟨u, cellsL l u⟩], appTag t3 93 4 [eVI ⟨u, c⟩], tv, by simp [g1], by simp [g4], by simp [g5], by simp [g63], by simp [g64], by simp, by omega, ⟨z, by simp [n24, n42, n34, n43, n23, n32, n25, n52, n35, n53, n45, n54, c2], hz⟩, by rw [e9, hb, hc, hi]; simp [n24, n42, n34, n43, n23, n32, n25, n52, n35, n53, n45, n54, c3, eSt3, rowsVB, rowsVC, rowsVI, eVB, eVC, eVI], by simp [a1], by simp [a2], by simp [a3]⟩, by omega⟩
      · rw [if_neg hbk0] at hb
        simp only [Option.toList_some] at hb
        have hpos1 : 0 < (bookL l u).length := List.length_pos_iff.2 hbk0
        simp -implicitDefEqProofs [n24, n42, n34, n43, n23, n32, hpos1, g5, c3, a1, rowsVB, eV]
        refine ⟨⟨fun _ _ => rfl, by omega⟩, ?_⟩
        intro _
        by_cases hce0 : cellsL l u = []
        · rw [if_pos hce0] at hc
          simp only [Option.toList_none, List.append_nil] at hc
          simp -implicitDefEqProofs [g1, n24, n42, n34, n43, n23, n32, hce0]
          refine CallK.with hin (by simp [eV]) ?_
          cases hic : intentL l u with
          | none =>
            rw [hic] at hi
            simp only [Option.map_none, Option.toList_none, List.append_nil] at hi
            rw [intentA']
            simp -implicitDefEqProofs [n24, n42, n34, n43, n23, n32, eV]
            refine allocK.intro (fun b5 hb5 => ?_)
            have n25 : ¬ b2 = b5 := by rintro rfl; simp [n24, n42, n34, n43, n23, n32, c2] at hb5
            have n52 : ¬ b5 = b2 := fun h => n25 h.symm
            have n35 : ¬ b3 = b5 := by rintro rfl; simp [n24, n42, n34, n43, n23, n32, c3] at hb5
            have n53 : ¬ b5 = b3 := fun h => n35 h.symm
            have n45 : ¬ b4 = b5 := by rintro rfl; simp [n24, n42, n34, n43, n23, n32] at hb5
            have n54 : ¬ b5 = b4 := fun h => n45 h.symm
            simp -implicitDefEqProofs [n24, n42, n34, n43, n23, n32, n25, n52, n35, n53, n45, n54]
            simp -implicitDefEqProofs [g65, hw]
            exact ⟨⟨k + 1, appTag t1 89 3 [eVB ⟨u, bookL l u⟩], t2, t3, tv, by simp [g1], by simp [g4], by simp [g5], by simp [g63], by simp [g64], by simp, by omega, ⟨z, by simp [n24, n42, n34, n43, n23, n32, n25, n52, n35, n53, n45, n54, c2], hz⟩, by rw [e9, hb, hc, hi]; simp [n24, n42, n34, n43, n23, n32, n25, n52, n35, n53, n45, n54, c3, eSt3, rowsVB, rowsVC, rowsVI, eVB, eVC, eVI], by simp [a1], by simp [a2], by simp [a3]⟩, by omega⟩
          | some c =>
            rw [hic] at hi
            simp only [Option.map_some, Option.toList_some] at hi
            rw [intentA']
            simp -implicitDefEqProofs [n24, n42, n34, n43, n23, n32, eV]
            refine allocK.intro (fun b5 hb5 => ?_)
            have n25 : ¬ b2 = b5 := by rintro rfl; simp [n24, n42, n34, n43, n23, n32, c2] at hb5
            have n52 : ¬ b5 = b2 := fun h => n25 h.symm
            have n35 : ¬ b3 = b5 := by rintro rfl; simp [n24, n42, n34, n43, n23, n32, c3] at hb5
            have n53 : ¬ b5 = b3 := fun h => n35 h.symm
            have n45 : ¬ b4 = b5 := by rintro rfl; simp [n24, n42, n34, n43, n23, n32] at hb5
            have n54 : ¬ b5 = b4 := fun h => n45 h.symm
            simp -implicitDefEqProofs [n24, n42, n34, n43, n23, n32, n25, n52, n35, n53, n45, n54, g5, c3, a3, rowsVI, eV]
            refine ⟨⟨fun _ _ => rfl, by omega⟩, ?_⟩
            simp -implicitDefEqProofs [g65, hw]
            exact ⟨⟨k + 1, appTag t1 89 3 [eVB ⟨u, bookL l u⟩], t2, appTag t3 93 4 [eVI ⟨u, c⟩], tv, by simp [g1], by simp [g4], by simp [g5], by simp [g63], by simp [g64], by simp, by omega, ⟨z, by simp [n24, n42, n34, n43, n23, n32, n25, n52, n35, n53, n45, n54, c2], hz⟩, by rw [e9, hb, hc, hi]; simp [n24, n42, n34, n43, n23, n32, n25, n52, n35, n53, n45, n54, c3, eSt3, rowsVB, rowsVC, rowsVI, eVB, eVC, eVI], by simp [a1], by simp [a2], by simp [a3]⟩, by omega⟩
        · rw [if_neg hce0] at hc
          simp only [Option.toList_some] at hc
          have hpos : 0 < (cellsL l u).length := List.length_pos_iff.2 hce0
          simp -implicitDefEqProofs [g1, n24, n42, n34, n43, n23, n32, hpos, g5, c3, a2, rowsVC, eV]
          refine ⟨⟨fun _ _ => rfl, by omega⟩, ?_⟩
          refine CallK.with hin (by simp [eV]) ?_
          cases hic : intentL l u with
          | none =>
            rw [hic] at hi
            simp only [Option.map_none, Option.toList_none, List.append_nil] at hi
            rw [intentA']
            simp -implicitDefEqProofs [n24, n42, n34, n43, n23, n32, eV]
            refine allocK.intro (fun b5 hb5 => ?_)
            have n25 : ¬ b2 = b5 := by rintro rfl; simp [n24, n42, n34, n43, n23, n32, c2] at hb5
            have n52 : ¬ b5 = b2 := fun h => n25 h.symm
            have n35 : ¬ b3 = b5 := by rintro rfl; simp [n24, n42, n34, n43, n23, n32, c3] at hb5
            have n53 : ¬ b5 = b3 := fun h => n35 h.symm
            have n45 : ¬ b4 = b5 := by rintro rfl; simp [n24, n42, n34, n43, n23, n32] at hb5
            have n54 : ¬ b5 = b4 := fun h => n45 h.symm
            simp -implicitDefEqProofs [n24, n42, n34, n43, n23, n32, n25, n52, n35, n53, n45, n54]
            simp -implicitDefEqProofs [g65, hw]
            exact ⟨⟨k + 1, appTag t1 89 3 [eVB ⟨u, bookL l u⟩], appTag t2 91 3 [eVC ⟨u, cellsL l u⟩], t3, tv, by simp [g1], by simp [g4], by simp [g5], by simp [g63], by simp [g64], by simp, by omega, ⟨z, by simp [n24, n42, n34, n43, n23, n32, n25, n52, n35, n53, n45, n54, c2], hz⟩, by rw [e9, hb, hc, hi]; simp [n24, n42, n34, n43, n23, n32, n25, n52, n35, n53, n45, n54, c3, eSt3, rowsVB, rowsVC, rowsVI, eVB, eVC, eVI], by simp [a1], by simp [a2], by simp [a3]⟩, by omega⟩
          | some c =>
            rw [hic] at hi
            simp only [Option.map_some, Option.toList_some] at hi
            rw [intentA']
            simp -implicitDefEqProofs [n24, n42, n34, n43, n23, n32, eV]
            refine allocK.intro (fun b5 hb5 => ?_)
            have n25 : ¬ b2 = b5 := by rintro rfl; simp [n24, n42, n34, n43, n23, n32, c2] at hb5
            have n52 : ¬ b5 = b2 := fun h => n25 h.symm
            have n35 : ¬ b3 = b5 := by rintro rfl; simp [n24, n42, n34, n43, n23, n32, c3] at hb5
            have n53 : ¬ b5 = b3 := fun h => n35 h.symm
            have n45 : ¬ b4 = b5 := by rintro rfl; simp [n24, n42, n34, n43, n23, n32] at hb5
            have n54 : ¬ b5 = b4 := fun h => n45 h.symm
            simp -implicitDefEqProofs [n24, n42, n34, n43, n23, n32, n25, n52, n35, n53, n45, n54, g5, c3, a3, rowsVI, eV]
            refine ⟨⟨fun _ _ => rfl, by omega⟩, ?_⟩
            simp -implicitDefEqProofs [g65, hw]
            exact ⟨⟨k + 1, appTag t1 89 3 [eVB ⟨u, bookL l u⟩], appTag t2 91 3 [eVC ⟨u, cellsL l u⟩], appTag t3 93 4 [eVI ⟨u, c⟩], tv, by simp [g1], by simp [g4], by simp [g5], by simp [g63], by simp [g64], by simp, by omega, ⟨z, by simp [n24, n42, n34, n43, n23, n32, n25, n52, n35, n53, n45, n54, c2], hz⟩, by rw [e9, hb, hc, hi]; simp [n24, n42, n34, n43, n23, n32, n25, n52, n35, n53, n45, n54, c3, eSt3, rowsVB, rowsVC, rowsVI, eVB, eVC, eVI], by simp [a1], by simp [a2], by simp [a3]⟩, by omega⟩
    · have hlt' : ¬ (k : Int) < (vs.length : Int) := by omega
      rw [List.take_of_length_le (by omega)] at c3
      simp -implicitDefEqProofs [g64, g65, hlt']
      exact ⟨t1, t2, t3, by simp [g4], by simp [g5], ⟨z, c2, hz⟩, c3⟩
  rintro t hh ⟨t1, t2, t3, g4, g5, ⟨z, c2, hz⟩, c3⟩
  have e9 : partL v l vs = ⟨vs.filterMap (bookV l), vs.filterMap (cellsV l), vs.filterMap (intentV l), heldL v l, incL l, lastL l⟩ := rfl
  rw [e9] at c3
  rw [eSt3] at c3
  simp -implicitDefEqProofs [g4, g5, c2, hz, c3, n23, n32, eSt, rowsVB, rowsVC, rowsVI]
end Go.Proofs.YtjbbfiagijjdoaaGreat
