/- Parts of the proof: what is used by the law. No condition. -/
import Derived.Test.YtjbbfiagijjdoaaGreatRwG
set_option linter.unusedSimpArgs false
set_option linter.unusedVariables false
/- 'append' on abstract slices. No condition. -/
set_option linter.unusedSimpArgs false
set_option linter.unusedVariables false
namespace Go.Rw

/-- rows and their cells, one behind the other -/
structure Rows (I : Imm) (rows : List (List AV)) (sz : Nat) (cs : List Value) : Prop where
  len : cs.length = rows.length * sz
  each : ∀ (i : Nat) (r : List AV), rows[i]? = some r → r.length = sz
  flag : ∀ (i : Nat) (r : List AV) (j : Nat) (x : AV), rows[i]? = some r → r[j]? = some x → cellAV x = true
  rep : ∀ (i : Nat) (r : List AV) (j : Nat) (x : AV), rows[i]? = some r → r[j]? = some x → ∃ v, cs[i * sz + j]? = some v ∧ Rep I x v

theorem lt_of_get {α : Type} {l : List α} {i : Nat} {x : α} (h : l[i]? = some x) : i < l.length := by
  rcases Nat.lt_or_ge i l.length with h' | h'
  · exact h'
  · simp [List.getElem?_eq_none h'] at h

theorem Rows.mono {I I' : Imm} {rows : List (List AV)} {sz : Nat} {cs : List Value} (h : Rows I rows sz cs) (hI : Sub I I') : Rows I' rows sz cs :=
  ⟨h.len, h.each, h.flag, fun i r j x hi hj => let ⟨v, a, b⟩ := h.rep i r j x hi hj; ⟨v, a, b.mono hI⟩⟩

theorem Rows.nil (I : Imm) (sz : Nat) : Rows I [] sz [] := ⟨by simp, by simp, by simp, by simp⟩

theorem Rows.append {I : Imm} {rows rows2 : List (List AV)} {sz : Nat} {cs cs2 : List Value} (h : Rows I rows sz cs) (h2 : Rows I rows2 sz cs2) :
    Rows I (rows ++ rows2) sz (cs ++ cs2) := by
  refine ⟨by simp [h.len, h2.len, Nat.add_mul], fun i r hi => ?_, fun i r j x hi hj => ?_, fun i r j x hi hj => ?_⟩
  · rw [List.getElem?_append] at hi
    split at hi
    · exact h.each i r hi
    · exact h2.each _ r hi
  · rw [List.getElem?_append] at hi
    split at hi
    · exact h.flag i r j x hi hj
    · exact h2.flag _ r j x hi hj
  · rw [List.getElem?_append] at hi
    split at hi
    · obtain ⟨v, h3, h4⟩ := h.rep i r j x hi hj
      have := lt_of_get h3
      exact ⟨v, by rw [List.getElem?_append_left this]; exact h3, h4⟩
    · rename_i hlt
      obtain ⟨v, h3, h4⟩ := h2.rep _ r j x hi hj
      refine ⟨v, ?_, h4⟩
      have e : i * sz + j = cs.length + ((i - rows.length) * sz + j) := by
        rw [h.len, ← Nat.add_assoc, ← Nat.add_mul]
        congr 2; omega
      rw [e, List.getElem?_append_right (by omega)]
      simpa using h3

theorem Rows.one {I : Imm} {rows : List (List AV)} {sz : Nat} {cs : List Value} (h : Rows I rows sz cs) : ∀ u ∈ cs, u.oneCell' = true := by
  intro u hu
  obtain ⟨k, hk, rfl⟩ := List.getElem_of_mem hu
  have hk2 := hk
  rw [h.len] at hk2
  have hpos : 0 < sz := by
    rcases Nat.eq_zero_or_pos sz with h0 | h0
    · rw [h0] at hk2; simp at hk2
    · exact h0
  have h1 : k / sz < rows.length := (Nat.div_lt_iff_lt_mul hpos).2 hk2
  have h2 := Nat.mod_lt k hpos
  have h3 := h.each (k / sz) rows[k / sz] (by simp [h1])
  have h4 : k % sz < rows[k / sz].length := by omega
  obtain ⟨v, hv, hrep⟩ := h.rep (k / sz) rows[k / sz] (k % sz) rows[k / sz][k % sz] (by simp [h1]) (by simp [h4])
  have e : k / sz * sz + k % sz = k := by have := Nat.div_add_mod k sz; rw [Nat.mul_comm] at this; exact this
  rw [e, List.getElem?_eq_getElem hk] at hv
  obtain rfl := Option.some.inj hv
  exact oneCell_of hrep (h.flag (k / sz) rows[k / sz] (k % sz) rows[k / sz][k % sz] (by simp [h1]) (by simp [h4]))

theorem Rows.rep_sl {I : Imm} {rows : List (List AV)} {sz : Nat} {cs : List Value} (h : Rows I rows sz cs) {b o cap : Nat} (tag : Tag) (ht : tag ≠ .nil)
    (hi : ∀ k v, cs[k]? = some v → I b (o + k) = some v) (hl : rows.length ≤ maxLen) (hc : rows.length ≤ cap) : Rep I (.sl tag rows) (.slice (some ⟨b, o, none⟩) rows.length cap) := by
  refine .sl sz (fun i j => cs.getD (i * sz + j) undef) ht hc hl h.each h.flag (fun i j hi' hj => ?_) (fun i r j x hi' hj => ?_)
  · have h3 := h.each i rows[i] (by simp [hi'])
    have h4 : j < rows[i].length := by omega
    obtain ⟨v, hv, _⟩ := h.rep i rows[i] j rows[i][j] (by simp [hi']) (by simp [h4])
    rw [List.getD_eq_getElem?_getD, hv, Option.getD_some, Nat.add_assoc]
    exact hi _ _ hv
  · obtain ⟨v, hv, hrep⟩ := h.rep i r j x hi' hj
    rw [List.getD_eq_getElem?_getD, hv, Option.getD_some]
    exact hrep

theorem Rep.retag {I : Imm} {tag tag' : Tag} {rows : List (List AV)} {y : Value} (h : Rep I (.sl tag rows) y) (ht : tag' ≠ .nil) : Rep I (.sl tag' rows) y := by
  cases h with
  | nil => exact .nil _
  | empty _ _ a c => exact .empty _ ht a c
  | sl s c _ hcap hlen hs hk hi hr => exact .sl s c ht hcap hlen hs hk hi hr

theorem Rows.of_rep {I : Imm} {tag : Tag} {rows : List (List AV)} {b : Addr} {n cap sz : Nat} (h : Rep I (.sl tag rows) (.slice (some b) n cap)) (hs : ∀ r ∈ rows, r.length = sz) (hb : b.spot = none ∨ rows ≠ []) :
    n = rows.length ∧ n ≤ cap ∧ n ≤ maxLen ∧ ∃ bb o, b = ⟨bb, o, none⟩ ∧ ∃ cs, Rows I rows sz cs ∧ ∀ k v, cs[k]? = some v → I bb (o + k) = some v := by
  cases h with
  | empty _ _ a c =>
    rcases hb with hb | hb
    · obtain ⟨bb, o, sp⟩ := b
      simp only at hb
      subst hb
      exact ⟨rfl, Nat.zero_le _, Nat.zero_le _, bb, o, rfl, [], Rows.nil I sz, by simp⟩
    · exact absurd rfl hb
  | sl s' c ht hcap hlen hs' hk hi hr =>
    rename_i bb o
    refine ⟨rfl, hcap, hlen, bb, o, rfl, ?_⟩
    by_cases he : rows = []
    · subst he; exact ⟨[], Rows.nil I sz, by simp⟩
    · have hss : s' = sz := by
        cases rows with
        | nil => exact absurd rfl he
        | cons r0 rest => rw [← hs' 0 r0 rfl]; exact hs r0 (by simp)
      subst hss
      obtain ⟨cs, h1, h2, h3⟩ := flat_cells (b := bb) (o := o) c hs' hi
      exact ⟨cs, ⟨h1, hs', hk, fun i r j x hi' hj => ⟨c i j, h3 i j (lt_of_get hi') (by rw [← hs' i r hi']; exact lt_of_get hj), hr i r j x hi' hj⟩⟩, h2⟩

section
variable {B : Nat} {F : Nat → Prop} {w0 : World} {I0 : Imm} {s : ASt} {G : Ghost} {a : Act} {w : World} {P : Program}

theorem heap_setRow (w : World) (g : Nat) (cur : Array Value) (e : TypeId) (cs : Array Value) (hg : w.heap[g]? = some (.cells cur e (0, 0))) :
    (w.setRow g cs).heap[g]? = some (.cells cs e (0, 0)) := setRow_heap w g cur cs e (0, 0) hg

/-- what a slot needs behind an append -/
theorem grown_set (r : Rel B F w0 I0 s G a w) {tx d g e sz cap T : Nat} {w' : World} {rows : List (List AV)} {cs : List Value} {cur' : Array Value} {pu : Bool}
    (hrows : Rows G.imm rows sz cs) (hl : rows.length ≤ maxLen) (hcap : rows.length ≤ cap) (hcm : cap ≤ Go.maxLen)
    (hg : G.own g = some (.slot tx) ∨ w.heap.size ≤ g)
    (hnew : w'.heap[g]? = some (.cells cur' T (0, 0))) (hcs : ∀ (k : Nat) (v : Value), cs[k]? = some v → cur'[k]? = some v) (hcz : cur'.size = cap * sz)
    (hsub : ∀ (i : Nat) (v : Value), G.imm g i = some v → cs[i]? = some v)
    (hheap : ∀ b, b ≠ g → b < w.heap.size → w'.heap[b]? = w.heap[b]?) (hsize : w.heap.size ≤ w'.heap.size) (hk : Calm w w') (hpu : pu = true → w.heap.size ≤ g) :
    ∃ G', Rel B F w0 I0 ((s.kill tx).set d (.sl (.live e sz pu) rows)) G' (a.put (some d) (.slice (some ⟨g, 0, none⟩) rows.length cap)) w' := by
  have hS : Sub G.imm (fun b i => if b = g then cs[i]? else G.imm b i) := fun b i v h => by
    simp only
    split
    · rename_i hb; subst hb; exact hsub i v h
    · exact h
  have hg' : g < w'.heap.size := by
    rcases Nat.lt_or_ge g w'.heap.size with h | h
    · exact h
    · simp [Array.getElem?_eq_none h] at hnew
  have hr' := r.turn (.slot tx) (.slot d) g w' (fun b i => if b = g then cs[i]? else G.imm b i) (by simp) (by simp) hS hheap hsize (fun b hb _ => by funext i; simp [hb]) hg hg' (fun b i v h => by
    split at h
    · rename_i hb
      subst hb
      simp [World.cell?, hnew, hcs i v h]
    · have h1 := r.hrel.imm b i v h
      rename_i hb
      rw [cell_congr (hheap b hb (cell_lt h1))]; exact h1) hk
  refine ⟨_, hr'.set d _ _ ((hrows.mono hS).rep_sl _ (by simp) (fun k v hk => by simpa using hk) hl hcap) ?_⟩
  refine .inr ⟨g, cap, cur', T, rfl, by simp [upd], fun i hi => ?_, fun q i rr j x hi hj => ?_, hnew, hcap, hcm, hcz, fun r hr => ?_⟩
  · simp only [if_true]
    apply List.getElem?_eq_none
    rw [hrows.len]; exact hi
  · obtain ⟨v, h1, h2⟩ := hrows.rep i rr j x hi hj
    refine ⟨v, hcs _ _ h1, h2.mono fun k n u hk => ?_⟩
    have hkg : k ≠ g := by
      rintro rfl
      have h3 := cell_lt (r.hrel.imm k n u hk)
      have := hpu q
      omega
    simpa [hkg] using hk
  · obtain ⟨i, hi, rfl⟩ := List.getElem_of_mem hr
    exact hrows.each i rows[i] (by simp [hi])

/-- room behind the end, whatever the block was made for -/
theorem run_append_roomT {P : Program} (w : World) (t ty e T : TypeId) (i : TypeInfo) (ht : P.underlying t = some (.slice e)) (hi : P.info? e = some i)
    (g sLen sCap : Nat) (cur : Array Value) (hg : w.heap[g]? = some (.cells cur T (0, 0)))
    (a : Addr) (m c : Nat) (news : List Value) (hl : news.length = m * i.size) (hnews : ∀ j u, news[j]? = some u → w.cell? (a.add j) = some u) (h1 : ∀ u ∈ news, u.oneCell' = true)
    (hroom : sLen + m ≤ sCap) (hfit : sLen * i.size + news.length ≤ cur.size) :
    (Builtin.append_ #[t, t] ty #[.slice (some ⟨g, 0, none⟩) sLen sCap, .slice (some a) m c]).run P w =
      .ok (.slice (some ⟨g, 0, none⟩) (sLen + m) sCap) (w.setRow g (cur.toList.take (sLen * i.size) ++ news ++ cur.toList.drop (sLen * i.size + news.length)).toArray) := by
  have hf := run_firstCells_some (P := P) w i.size m a m c news hl hnews
  have hst := run_storeCells_at P g (sLen * i.size) T news 0 cur w hg (by simpa using hfit) h1
  simp only [Nat.add_zero] at hst
  simp [Builtin.append_, run_underlying ht, sizeOf, typeInfo, hi, Builtin.lenOf, hroom, hf, Addr.add_lit, hst]

theorem append_step (r : Rel B F w0 I0 s G a w) {t ty e sz by_ tx d : Nat} {tag tag2 : Tag} {rows rows2 : List (List AV)} {vy : Value} {z : List AV}
    (hs : slT P t = some (e, sz, by_)) (hz : zT P e = some z) (hzl : z.length = sz) (hpos : 0 < sz) (hbpos : 0 < by_)
    (hx : s.t tx = .sl tag rows) (hok : appOK tag e sz) (hy : Rep G.imm (.sl tag2 rows2) vy)
    (h1 : ∀ r ∈ rows, r.length = sz) (h2 : ∀ r ∈ rows2, r.length = sz) (hb : (rows.length + rows2.length) * by_ ≤ 140737488355328) :
    ∃ v' w' G', (Builtin.append_ #[t, t] ty #[a.eval (.tmp tx), vy]).run P w = .ok v' w' ∧
      Rel B F w0 I0 ((s.kill tx).set d (.sl (appTag tag e sz rows2) (rows ++ rows2))) G' (a.put (some d) v') w' := by
  obtain ⟨inf, hu, hinf, hisz, hiby⟩ := slT_some hs
  simp only at hu hinf hisz hiby
  obtain ⟨inf', zv, hinf', hzv, hzcr, _⟩ := zT_some (I := G.imm) hz
  obtain rfl : inf = inf' := by rw [hinf] at hinf'; exact Option.some.inj hinf'
  have hzs : zv.cells.size = sz := by rw [← hzcr.1]; exact hzl
  have hrep := (r.tmps tx).1
  have hlive := (r.tmps tx).2
  rw [hx] at hrep hlive
  have hev : a.eval (.tmp tx) = a.tmps.getD tx undef := rfl
  rw [hev]
  generalize a.tmps.getD tx undef = vx at hrep hlive ⊢
  have hnm : rows.length + rows2.length ≤ (rows.length + rows2.length) * by_ := Nat.le_mul_of_pos_right _ hbpos
  -- nothing is appended
  have zero : (vy = .slice none 0 0 ∨ ∃ ad k, vy = .slice (some ad) 0 k) → rows2 = [] → ∃ v' w' G', (Builtin.append_ #[t, t] ty #[vx, vy]).run P w = .ok v' w' ∧
      Rel B F w0 I0 ((s.kill tx).set d (.sl (appTag tag e sz rows2) (rows ++ rows2))) G' (a.put (some d) v') w' := by
    intro hyz he
    subst he
    rw [List.append_nil]
    rcases hok with rfl | rfl | ⟨pu0, rfl⟩
    · cases hrep with
      | nil => exact ⟨.slice none 0 0, w, G, run_append_zero hu hinf (Nat.le_refl _) hyz, by rw [appTag_nil]; exact (r.kill tx).set d _ _ (.nil _) (.inl ⟨rfl, rfl⟩)⟩
      | sl s c ht => exact absurd rfl ht
      | empty t ht => exact absurd rfl ht
    · obtain ⟨ad, n, rfl⟩ := hlive
      exact ⟨.slice ad n n, w, G, run_append_zero hu hinf (Nat.le_refl _) hyz, (r.kill tx).set d _ _ hrep ⟨_, _, rfl⟩⟩
    · rw [appTag_live]
      rcases hlive with ⟨hr0, rfl⟩ | ⟨g, cap, cur, T, rfl, ho, hi, hpu, hh, hc, hcm, hcz, hsz⟩
      · exact ⟨.slice none 0 0, w, G, run_append_zero hu hinf (Nat.le_refl _) hyz, (r.kill tx).set d _ _ (hrep.retag (by simp)) (.inl ⟨hr0, rfl⟩)⟩
      · obtain ⟨_, _, hml, bb, o, hbo, cs, hrows, hcs⟩ := Rows.of_rep hrep h1 (.inl rfl)
        injection hbo with e1 e2
        subst e1; subst e2
        have hin : ∀ k v, cs[k]? = some v → cur[k]? = some v := fun k v hk => by
          have := r.hrel.imm g (0 + k) v (hcs k v hk)
          simpa [World.cell?, hh] using this
        obtain ⟨G', hG'⟩ := grown_set r (tx := tx) (d := d) (g := g) (e := e) (w' := w) hrows hml hc hcm (.inl ho) hh hin hcz (fun i v hiv => by
          have hlt : i < cs.length := by
            rw [hrows.len]
            rcases Nat.lt_or_ge i (rows.length * sz) with h' | h'
            · exact h'
            · rw [hi i h'] at hiv; simp at hiv
          have h3 := hcs i cs[i] (by simp [hlt])
          rw [Nat.zero_add, hiv] at h3
          rw [List.getElem?_eq_getElem hlt, Option.some.inj h3]) (fun _ _ _ => rfl) (Nat.le_refl _) (Calm.refl w) (pu := false) (by simp)
        exact ⟨_, w, G', run_append_zero hu hinf hc hyz, hG'⟩
  -- a new array
  have fresh : ∀ (pu : Bool) (olds : List Value) (vold : Nat), Rows G.imm rows sz olds → vold < rows.length + rows2.length → ∀ (news : List Value), Rows G.imm rows2 sz news →
      ∃ G', Rel B F w0 I0 ((s.kill tx).set d (.sl (.live e sz pu) (rows ++ rows2))) G'
        (a.put (some d) (.slice (some ⟨w.heap.size, 0, none⟩) (rows.length + rows2.length) (grownCap w (rows.length + rows2.length) vold e)))
        (w.drew.alloc (.cells (olds.toArray ++ news.toArray ++ Builtin.zeroCells zv.cells (grownCap w (rows.length + rows2.length) vold e - (rows.length + rows2.length))) e)) := by
    intro pu olds vold hro hlt news hrn
    obtain ⟨p1, p2, p3⟩ := heap_push (w := w) (w1 := w.drew) rfl (.cells (olds.toArray ++ news.toArray ++ Builtin.zeroCells zv.cells (grownCap w (rows.length + rows2.length) vold e - (rows.length + rows2.length))) e)
    have hall := hro.append hrn
    have hlen : (rows ++ rows2).length = rows.length + rows2.length := by simp
    have hge := grownCap_ge w (rows.length + rows2.length) vold e
    have h63 : rows.length + rows2.length ≤ Go.maxLen := by simp only [Go.maxLen]; omega
    have hcm := grownCap_le_maxLen w (rows.length + rows2.length) vold e h63
    have := grown_set r (tx := tx) (d := d) (g := w.heap.size) (e := e) (cap := grownCap w (rows.length + rows2.length) vold e) hall (by rw [hlen]; simp only [maxLen]; omega) (by rw [hlen]; exact hge) hcm (.inr (Nat.le_refl _)) p2
      (fun k v hk => by
        have hk' := lt_of_get hk
        rw [List.length_append] at hk'
        rw [Array.getElem?_append_left (by simpa using hk')]
        simpa [List.getElem?_append, Array.getElem?_append] using hk)
      (by
        simp only [Array.size_append, List.size_toArray, size_zeroCells, hzs, hro.len, hrn.len, ← Nat.add_mul]
        congr 1; omega)
      (fun i v hv => by have := r.hrel.imm _ _ _ hv; have := cell_lt this; omega)
      (fun b _ hb => p1 b hb) (by omega) ((Calm.drew w).trans (Calm.alloc _ _ _)) (pu := pu) (fun _ => Nat.le_refl _)
    rw [hlen] at this
    exact this
  -- what is appended
  have tagged : rows2 ≠ [] → ∃ pu, appTag tag e sz rows2 = .live e sz pu := fun h => by
    rcases appTag_or tag e sz rows2 with h1 | ⟨_, h1, _⟩
    · exact h1
    · exact absurd h1 h
  cases hy with
  | nil => exact zero (.inl rfl) rfl
  | empty _ _ a c => exact zero (.inr ⟨_, _, rfl⟩) rfl
  | sl s2 c2 ht2 hcap2 hlen2 hs2 hk2 hi2 hr2 =>
    rename_i b2 o2 cap2
    have hyrep : Rep G.imm (.sl tag2 rows2) (.slice (some ⟨b2, o2, none⟩) rows2.length cap2) := .sl s2 c2 ht2 hcap2 hlen2 hs2 hk2 hi2 hr2
    obtain ⟨_, _, hml2, bb, oo, hbo, news, hrn, hnews⟩ := Rows.of_rep hyrep h2 (.inl rfl)
    injection hbo with e1 e2
    subst e1; subst e2
    have hnews' : ∀ j u, news[j]? = some u → w.cell? ((⟨b2, o2, none⟩ : Addr).add j) = some u := fun j u hj => by
      rw [Addr.add_lit]; exact r.hrel.imm _ _ _ (hnews j u hj)
    by_cases hm : rows2.length = 0
    · have he : rows2 = [] := List.eq_nil_of_length_eq_zero hm
      subst he
      exact zero (.inr ⟨_, _, rfl⟩) rfl
    · have hnl : news.length = rows2.length * inf.size := by rw [hisz]; exact hrn.len
      obtain ⟨pu, htag⟩ := tagged (by rintro rfl; exact hm rfl)
      rw [htag]
      have fromNil : vx = .slice none 0 0 → rows = [] → ∃ v' w' G', (Builtin.append_ #[t, t] ty #[vx, .slice (some ⟨b2, o2, none⟩) rows2.length cap2]).run P w = .ok v' w' ∧
          Rel B F w0 I0 ((s.kill tx).set d (.sl (.live e sz pu) (rows ++ rows2))) G' (a.put (some d) v') w' := by
        intro hvx he
        subst hvx; subst he
        have hr := run_append_nil (P := P) w t ty e inf zv hu hinf hzv ⟨b2, o2, none⟩ rows2.length cap2 news hnl hnews' (by omega) (by simp at hnm hb; omega) (by rw [hiby]; simp at hb; omega)
        obtain ⟨G', hG'⟩ := fresh pu [] 0 (Rows.nil _ _) (by simp; omega) news hrn
        refine ⟨_, _, G', hr, ?_⟩
        simpa using hG'
      have fromSome : ∀ (ad : Addr) (cap : Nat), vx = .slice (some ad) rows.length cap → cap < rows.length + rows2.length → ∃ v' w' G', (Builtin.append_ #[t, t] ty #[vx, .slice (some ⟨b2, o2, none⟩) rows2.length cap2]).run P w = .ok v' w' ∧
          Rel B F w0 I0 ((s.kill tx).set d (.sl (.live e sz pu) (rows ++ rows2))) G' (a.put (some d) v') w' := by
        intro ad cap hvx hlt
        subst hvx
        by_cases hr0 : rows = []
        · subst hr0
          have hr := run_append_grow (P := P) w t ty e inf zv hu hinf hzv ad ([] : List (List AV)).length cap [] (by simp)
            (fun j u hj => by simp at hj) ⟨b2, o2, none⟩ rows2.length cap2 news hnl hnews' hlt (by omega) (growslice_fits hlt (by rw [hiby]; exact hb))
          obtain ⟨G', hG'⟩ := fresh pu [] cap (Rows.nil _ _) hlt news hrn
          exact ⟨_, _, G', hr, hG'⟩
        obtain ⟨_, _, _, b1, o1, rfl, olds, hro, holds⟩ := Rows.of_rep hrep h1 (.inr hr0)
        have hr := run_append_grow (P := P) w t ty e inf zv hu hinf hzv ⟨b1, o1, none⟩ rows.length cap olds (by rw [hisz]; exact hro.len)
          (fun j u hj => by rw [Addr.add_lit]; exact r.hrel.imm _ _ _ (holds j u hj)) ⟨b2, o2, none⟩ rows2.length cap2 news hnl hnews' hlt (by omega) (growslice_fits hlt (by rw [hiby]; exact hb))
        obtain ⟨G', hG'⟩ := fresh pu olds cap hro hlt news hrn
        exact ⟨_, _, G', hr, hG'⟩
      have fromFull : (∃ ad n, vx = .slice ad n n) → ∃ v' w' G', (Builtin.append_ #[t, t] ty #[vx, .slice (some ⟨b2, o2, none⟩) rows2.length cap2]).run P w = .ok v' w' ∧
          Rel B F w0 I0 ((s.kill tx).set d (.sl (.live e sz pu) (rows ++ rows2))) G' (a.put (some d) v') w' := by
        rintro ⟨ad, n, rfl⟩
        cases ad with
        | none => cases hrep; exact fromNil rfl rfl
        | some ad =>
          have hn : n = rows.length := by cases hrep <;> rfl
          subst hn
          exact fromSome ad _ rfl (by omega)
      rcases hok with rfl | rfl | ⟨pu0, rfl⟩
      · cases hrep with
        | nil => exact fromNil rfl rfl
        | sl s c ht => exact absurd rfl ht
        | empty t ht => exact absurd rfl ht
      · exact fromFull hlive
      · rw [appTag_live] at htag
        injection htag with _ _ htag
        subst htag
        rcases hlive with ⟨hr0, hv0⟩ | ⟨g, cap, cur, T, rfl, ho, hi, hpu, hh, hc, hcm, hcz, hsz⟩
        · exact fromNil hv0 hr0
        · by_cases hroom : rows.length + rows2.length ≤ cap
          · obtain ⟨_, _, hml, bb, oo, hbo, olds, hro, holds⟩ := Rows.of_rep hrep h1 (.inl rfl)
            injection hbo with e1 e2
            subst e1; subst e2
            have hfit : rows.length * inf.size + news.length ≤ cur.size := by rw [hnl, hisz, hcz, ← Nat.add_mul]; exact Nat.mul_le_mul_right _ hroom
            have hr := run_append_roomT (P := P) w t ty e T inf hu hinf g rows.length cap cur hh ⟨b2, o2, none⟩ rows2.length cap2 news hnl hnews' hrn.one hroom hfit
            have hin : ∀ k v, olds[k]? = some v → cur[k]? = some v := fun k v hk => by
              have := r.hrel.imm g (0 + k) v (holds k v hk)
              simpa [World.cell?, hh] using this
            have htake : cur.toList.take (rows.length * inf.size) = olds := by
              apply List.ext_getElem?
              intro k
              rw [List.getElem?_take]
              rw [hisz]
              by_cases hk : k < rows.length * sz
              · have hk' : k < olds.length := by rw [hro.len]; exact hk
                rw [if_pos hk, List.getElem?_eq_getElem hk']
                simpa using hin k olds[k] (by simp [hk'])
              · rw [if_neg hk, List.getElem?_eq_none]
                rw [hro.len]; omega
            have hlen : (rows ++ rows2).length = rows.length + rows2.length := by simp
            obtain ⟨G', hG'⟩ := grown_set r (tx := tx) (d := d) (g := g) (e := e) (cap := cap)
              (w' := w.setRow g (cur.toList.take (rows.length * inf.size) ++ news ++ cur.toList.drop (rows.length * inf.size + news.length)).toArray)
              (hro.append hrn) (by rw [hlen]; simp only [maxLen]; omega) (by rw [hlen]; exact hroom) hcm (.inl ho)
              (heap_setRow w g cur T _ hh)
              (fun k v hk => by
                have hk' := lt_of_get hk
                rw [htake]
                simp only [List.getElem?_toArray]
                rw [List.getElem?_append_left hk']
                exact hk)
              (by
                simp only [List.size_toArray, List.length_append, List.length_take, List.length_drop, Array.length_toList]
                rw [hcz] at hfit ⊢; omega)
              (fun i v hiv => by
                have hlt : i < olds.length := by
                  rw [hro.len]
                  rcases Nat.lt_or_ge i (rows.length * sz) with h' | h'
                  · exact h'
                  · rw [hi i h'] at hiv; simp at hiv
                have h3 := holds i olds[i] (by simp [hlt])
                rw [Nat.zero_add, hiv] at h3
                rw [List.getElem?_append_left hlt, List.getElem?_eq_getElem hlt, Option.some.inj h3])
              (fun b hb _ => setRow_other w g b _ hb) (by simp) (Calm.setRow w g cur T _ hh) (pu := false) (by simp)
            rw [hlen] at hG'
            exact ⟨_, _, G', hr, hG'⟩
          · exact fromSome _ cap rfl (by omega)

end
end Go.Rw
