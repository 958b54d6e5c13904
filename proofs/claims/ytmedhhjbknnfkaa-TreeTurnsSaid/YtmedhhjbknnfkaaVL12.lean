/- VL, part 12: append. -/
import Derived.Test.YtmedhhjbknnfkaaVL11
set_option linter.unusedVariables false
set_option linter.unusedSimpArgs false
namespace Go.VL
open Go

section
variable {C : Ctx} {X : Fx} {o : Oper} {g : Gh} {w : World} {a : Act} {e : Env} {S : Store} {K : Env → Store → Prop} {R : Act → World → Prop} {Q : Exit → Act → World → Prop}

theorem St.bareSlot {n : Nat} {tmps : Array Value} (h : St n g w e S tmps) (s : Nat) : St n g w (e.put s (e s).bare) S tmps where
  size := h.size
  slots t ht := by
    simp only [Env.put]
    split
    · rename_i h1; subst h1; exact (h.slots t ht).bare
    · exact h.slots t ht
  beyond t ht := by
    simp only [Env.put]
    split
    · rename_i h1; subst h1; rw [h.beyond t ht]; rfl
    · exact h.beyond t ht
  objs := h.objs
  new := h.new

theorem rows_app {sz : Nat} {rows more : List (List PV)} {j : Nat} {c : List PV} (h : (rows ++ more)[j]? = some c) : (rows[j]? = some c ∧ j < rows.length) ∨ (more[j - rows.length]? = some c ∧ rows.length ≤ j) := by
  by_cases hj : j < rows.length
  · rw [List.getElem?_append_left hj] at h; exact .inl ⟨h, hj⟩
  · rw [List.getElem?_append_right (by omega)] at h; exact .inr ⟨h, by omega⟩

/-- A new row. -/
theorem append_new (hn : ∀ b o, w.heap.size ≤ b → g.lab b o = .free) {el : TypeId} {sz : Nat} {rows more : List (List PV)} {olds news : List Value} {zs : Array Value} {cap d : Nat} (hlo : olds.length = rows.length * sz) (hln : news.length = more.length * sz)
    (hlr : ∀ (j : Nat) c, rows[j]? = some c → c.length = sz) (hlm : ∀ (j : Nat) c, more[j]? = some c → c.length = sz)
    (hro : ∀ (j : Nat) (c : List PV) (k : Nat) v, rows[j]? = some c → c[k]? = some v → ∃ u, olds[j * sz + k]? = some u ∧ u.oneCell' = true ∧ Rel g w v u)
    (hrn : ∀ (j : Nat) (c : List PV) (k : Nat) v, more[j]? = some c → c[k]? = some v → ∃ u, news[j * sz + k]? = some u ∧ u.oneCell' = true ∧ Rel g w v u) (hcap : rows.length + more.length ≤ cap) (hz : zs.size = (cap - (rows.length + more.length)) * sz) :
    ∃ g', Quiet g g' w (w.drew.alloc (.cells ((olds ++ news).toArray ++ zs) el)) ∧ Top g' (w.drew.alloc (.cells ((olds ++ news).toArray ++ zs) el)) d (.sl .tail sz (rows ++ more)) (.slice (some ⟨w.heap.size, 0, none⟩) (rows.length + more.length) cap) := by
  have q0 := Quiet.drew (w := w) hn
  have q := q0.trans (Quiet.alloc q0.new (.cells ((olds ++ news).toArray ++ zs) el) (fun k => if k < (rows.length + more.length) * sz then .frozen else .slot d))
  refine ⟨_, q, ?_, .inr rfl, fun k k1 k2 => ?_⟩
  · have hlen : (rows ++ more).length = rows.length + more.length := List.length_append
    have key : ∀ (j : Nat) (c : List PV) (k : Nat) v, (rows ++ more)[j]? = some c → c[k]? = some v → j * sz + k < (rows.length + more.length) * sz ∧ ∃ u, (olds ++ news)[j * sz + k]? = some u ∧ u.oneCell' = true ∧ Rel g w v u := by
      intro j c k v hj hk
      have hjl : j < rows.length + more.length := by rw [← hlen]; exact (List.getElem?_eq_some_iff.1 hj).1
      have hkc : k < c.length := (List.getElem?_eq_some_iff.1 hk).1
      have hmul : (j + 1) * sz ≤ (rows.length + more.length) * sz := Nat.mul_le_mul_right _ hjl
      rw [Nat.add_mul] at hmul
      rcases rows_app (sz := sz) hj with ⟨h1, h2⟩ | ⟨h1, h2⟩
      · have hks : k < sz := by rw [← hlr _ _ h1]; exact hkc
        obtain ⟨u, h3, h4, h5⟩ := hro j c k v h1 hk
        refine ⟨by omega, u, ?_, h4, h5⟩
        rw [List.getElem?_append_left (List.getElem?_eq_some_iff.1 h3).1]
        exact h3
      · have hks : k < sz := by rw [← hlm _ _ h1]; exact hkc
        obtain ⟨u, h3, h4, h5⟩ := hrn _ c k v h1 hk
        refine ⟨by omega, u, ?_, h4, h5⟩
        have e1 : j * sz = rows.length * sz + (j - rows.length) * sz := by rw [← Nat.add_mul]; congr 1; omega
        rw [List.getElem?_append_right (by omega), hlo]
        rw [show j * sz + k - rows.length * sz = (j - rows.length) * sz + k from by omega]
        exact h3
    have := @Rel.rows (g.mark w.heap.size fun k => if k < (rows.length + more.length) * sz then .frozen else .slot d) (w.drew.alloc (.cells ((olds ++ news).toArray ++ zs) el)) .tail sz (rows ++ more) w.heap.size 0 cap (by omega) (fun j c hj => by
      rcases rows_app (sz := sz) hj with ⟨h1, _⟩ | ⟨h1, _⟩
      · exact hlr _ _ h1
      · exact hlm _ _ h1) (fun j c k v hj hk => by
      obtain ⟨h0, u, h1, h2, h3⟩ := key j c k v hj hk
      refine ⟨?_, u, ?_, h2, h3.mono q.toFr⟩
      · simp only [Gh.mark, if_true, Nat.zero_add]
        rw [if_pos h0]
      · rw [Nat.zero_add]
        have := World.cell?_alloc_new w.drew ((olds ++ news).toArray ++ zs) el (j * sz + k)
        rw [World.size_drew] at this
        rw [this, Array.getElem?_append_left (by simp only [List.size_toArray]; exact (List.getElem?_eq_some_iff.1 h1).1)]
        simpa using h1)
    rwa [hlen] at this
  · rw [List.length_append] at k1
    refine ⟨?_, ?_, ?_⟩
    · simp only [Gh.mark, World.size_drew, if_true, Nat.zero_add]
      rw [if_neg (by omega)]
    · rw [Nat.zero_add]
      have := World.cell?_alloc_new w.drew ((olds ++ news).toArray ++ zs) el k
      rw [World.size_drew] at this
      rw [this]
      have hs : k < ((olds ++ news).toArray ++ zs).size := by
        simp only [Array.size_append, List.size_toArray, List.length_append, hlo, hln, hz, ← Nat.add_mul]
        rw [show rows.length + more.length + (cap - (rows.length + more.length)) = cap from by omega]
        exact k2
      rw [Array.getElem?_eq_getElem hs]
      rfl
    · have := World.frozen?_alloc_new w.drew ((olds ++ news).toArray ++ zs) el k
      rw [World.size_drew] at this
      rw [Nat.zero_add]
      exact this

/-- There is room. -/
theorem append_room {n : Nat} {tmps : Array Value} (h : St n g w e S tmps) {sz b o' cap s d : Nat} {rows more : List (List PV)} {news : List Value} (hs : s < n) (hd : d < n) (hsz : 0 < sz) (hes : e s = .sl .tail sz rows)
    (hv : tmps.getD s Go.undef = .slice (some ⟨b, o', none⟩) rows.length cap) (hroom : rows.length + more.length ≤ cap) (hln : news.length = more.length * sz) (hlm : ∀ (j : Nat) c, more[j]? = some c → c.length = sz)
    (hrn : ∀ (j : Nat) (c : List PV) (k : Nat) v, more[j]? = some c → c[k]? = some v → ∃ u, news[j * sz + k]? = some u ∧ u.oneCell' = true ∧ Rel g w v u) :
    (∀ j, j < news.length → (w.cell? ⟨b, o' + rows.length * sz + j, none⟩).isSome = true) ∧ (∀ j, j < news.length → w.frozen? ⟨b, o' + rows.length * sz + j, none⟩ = false) ∧
    ∃ g', Fr g g' w (w.setCells b (o' + rows.length * sz) news) ∧ St n g' (w.setCells b (o' + rows.length * sz) news) ((e.put s (e s).bare).put d (.sl .tail sz (rows ++ more))) S (tmps.setIfInBounds d (.slice (some ⟨b, o', none⟩) (rows.length + more.length) cap)) := by
  have htop := h.slots s hs
  rw [hes, hv] at htop
  have htail := htop.tail
  simp only [Tail] at htail
  obtain ⟨_, htail⟩ := htail
  have hmul : (rows.length + more.length) * sz ≤ cap * sz := Nat.mul_le_mul_right _ hroom
  rw [Nat.add_mul] at hmul
  have hcell : ∀ j, j < news.length → g.lab b (o' + rows.length * sz + j) = .slot s ∧ (w.cell? ⟨b, o' + rows.length * sz + j, none⟩).isSome = true ∧ w.frozen? ⟨b, o' + rows.length * sz + j, none⟩ = false := by
    intro j hj
    have := htail (rows.length * sz + j) (by omega) (by omega)
    rw [← Nat.add_assoc] at this
    exact this
  refine ⟨fun j hj => (hcell j hj).2.1, fun j hj => (hcell j hj).2.2, ?_⟩
  have hL : ∀ k, k < news.length → g.lab b (o' + rows.length * sz + k) = .slot s := fun k hk => (hcell k hk).1
  have fr1 : Fr g (g.range b (o' + rows.length * sz) news.length .frozen) w (w.setCells b (o' + rows.length * sz) news) := Fr.write (fun k hk => by rw [hL k hk]; trivial) (fun k hk => (hcell k hk).2.1) (.inl rfl)
  have fr2 := Fr.pass (g.range b (o' + rows.length * sz) news.length .frozen) (w.setCells b (o' + rows.length * sz) news) s d
  have fr := fr1.trans fr2
  refine ⟨_, fr, ?_⟩
  have hnewtop : Top ((g.range b (o' + rows.length * sz) news.length .frozen).pass s d) (w.setCells b (o' + rows.length * sz) news) d (.sl .tail sz (rows ++ more)) (.slice (some ⟨b, o', none⟩) (rows.length + more.length) cap) := by
    have hlen : (rows ++ more).length = rows.length + more.length := List.length_append
    refine ⟨?_, .inr rfl, fun k k1 k2 => ?_⟩
    · have hold := htop.rel
      have := @Rel.rows ((g.range b (o' + rows.length * sz) news.length .frozen).pass s d) (w.setCells b (o' + rows.length * sz) news) .tail sz (rows ++ more) b o' cap (by omega) (fun j c hj => by
        rcases rows_app (sz := sz) hj with ⟨h1, _⟩ | ⟨h1, _⟩
        · cases hold with
          | sl fv hc hl _ _ => exact hl _ _ h1
        · exact hlm _ _ h1) (fun j c k v hj hk => by
        rcases rows_app (sz := sz) hj with ⟨h1, h2⟩ | ⟨h1, h2⟩
        · cases hold with
          | sl fv hc hl h3 h4 =>
            obtain ⟨q1, q2, q3⟩ := h3 j c k v h1 hk
            exact ⟨fr.frozen _ _ q1, fv j k, fr.cell q1 q2, q3, (h4 j c k v h1 hk).mono fr⟩
        · have hkc : k < c.length := (List.getElem?_eq_some_iff.1 hk).1
          have hks : k < sz := by rw [← hlm _ _ h1]; exact hkc
          have hjl : j < rows.length + more.length := by rw [← hlen]; exact (List.getElem?_eq_some_iff.1 hj).1
          obtain ⟨u, h3, h4, h5⟩ := hrn _ c k v h1 hk
          have e1 : j * sz = rows.length * sz + (j - rows.length) * sz := by rw [← Nat.add_mul]; congr 1; omega
          have hlt := (List.getElem?_eq_some_iff.1 h3).1
          have hin := World.cell?_setCells_in b news (o' + rows.length * sz) w (fun j hj => (hcell j hj).2.1) _ hlt
          have e2 : o' + rows.length * sz + ((j - rows.length) * sz + k) = o' + (j * sz + k) := by omega
          rw [e2] at hin
          refine ⟨fr2.frozen _ _ (range_in (by omega) (by omega) _), u, ?_, h4, h5.mono fr⟩
          rw [hin]
          rw [List.getElem?_eq_getElem hlt] at h3
          exact h3)
      rwa [hlen] at this
    · rw [hlen, Nat.add_mul] at k1
      obtain ⟨t1, t2, t3⟩ := htail k (by omega) k2
      have ho : ¬ (b = b ∧ o' + rows.length * sz ≤ o' + k ∧ o' + k < o' + rows.length * sz + news.length) := by omega
      refine ⟨?_, ?_, ?_⟩
      · have : (g.range b (o' + rows.length * sz) news.length .frozen).lab b (o' + k) = .slot s := (range_out (by omega) _).trans t1
        simp only [Gh.pass, this, if_true]
      · rw [set_out ho]; exact t2
      · rw [World.frozen?_setCells]; exact t3
  refine ⟨by simp [h.size], fun t ht => ?_, fun t ht => ?_, fun id cells hi => ?_, fun b' o'' hb => ?_⟩
  · by_cases e1 : t = d
    · subst e1
      rw [getD_set_self _ _ _ _ (by rw [h.size]; exact ht)]
      simp only [Env.put, if_true]
      exact hnewtop
    · rw [getD_set_ne _ _ _ _ _ e1]
      simp only [Env.put, if_neg e1]
      by_cases e2 : t = s
      · subst e2
        rw [if_pos rfl]
        exact ⟨(h.slots t ht).rel.bare.mono fr, Tail.bare _ _ _ _ _⟩
      · rw [if_neg e2]
        have := h.slots t ht
        exact ⟨this.rel.mono fr, (this.tail.write hL (by simpa using e2)).pass e2⟩
  · simp only [Env.put]
    rw [if_neg (by omega), if_neg (by omega)]
    exact h.beyond t ht
  · exact ((h.objs id cells hi).write hL (by simp) (by simp) fr1).pass
  · rw [(setCells_size b _ _ w).1] at hb
    have h0 := h.new b' o'' hb
    have : (g.range b (o' + rows.length * sz) news.length .frozen).lab b' o'' = .free := by
      simp only [Gh.range]
      split
      · rename_i hin
        have := lt_of_isSome (hcell 0 (by omega)).2.1
        omega
      · exact h0
    simp [Gh.pass, this]

/-! ### arrays of one's own -/
theorem bareAll_len {sz : Nat} : ∀ {more : List (List PV)}, (∀ (j : Nat) c, more[j]? = some c → c.length = sz) → (bareAll more).length = more.length * sz
  | [], _ => by simp [bareAll]
  | c :: more, h => by
    have h0 := h 0 c rfl
    have ih := bareAll_len (more := more) fun j c' hj => h (j + 1) c' (by simpa using hj)
    simp only [bareAll, List.flatten_cons, List.map_append, List.length_append, List.length_map, List.length_cons] at ih ⊢
    rw [ih, h0, Nat.add_mul]
    omega
theorem bareAll_get {sz : Nat} : ∀ {more : List (List PV)}, (∀ (j : Nat) c, more[j]? = some c → c.length = sz) → ∀ (k : Nat) v, (bareAll more)[k]? = some v → ∃ (j : Nat) (c : List PV) (i : Nat) (u : PV), more[j]? = some c ∧ c[i]? = some u ∧ v = u.bare ∧ k = j * sz + i
  | [], _, k, v, hk => by simp [bareAll] at hk
  | c :: more, h, k, v, hk => by
    have h0 := h 0 c rfl
    simp only [bareAll, List.flatten_cons, List.map_append] at hk
    by_cases hlt : k < (c.map PV.bare).length
    · rw [List.getElem?_append_left hlt] at hk
      simp only [List.getElem?_map, Option.map_eq_some_iff] at hk
      obtain ⟨u, hu, rfl⟩ := hk
      exact ⟨0, c, k, u, rfl, hu, rfl, by omega⟩
    · rw [List.getElem?_append_right (by omega)] at hk
      obtain ⟨j, c', i, u, h1, h2, h3, h4⟩ := bareAll_get (more := more) (fun j c' hj => h (j + 1) c' (by simpa using hj)) _ v hk
      simp only [List.length_map] at hlt h4
      refine ⟨j + 1, c', i, u, by simpa using h1, h2, h3, ?_⟩
      rw [Nat.add_mul]
      omega

/-- What an array of one's own holds in memory. -/
theorem arr_cells {id : Nat} {cells : List PV} (h : ObjOk g w id cells) : ∃ olds : List Value, olds.length = cells.length ∧ ∀ (k : Nat) v, cells[k]? = some v → ∃ u, olds[k]? = some u ∧ w.cell? ⟨(g.loc id).1, (g.loc id).2 + k, none⟩ = some u ∧ u.oneCell' = true ∧ Rel g w v u := by
  refine ⟨(List.range cells.length).map fun k => (w.cell? ⟨(g.loc id).1, (g.loc id).2 + k, none⟩).getD Go.undef, by simp, fun k v hk => ?_⟩
  obtain ⟨_, _, u, h3, h4, h5, _⟩ := h.cell k v hk
  refine ⟨u, ?_, h3, h4, h5⟩
  have hlt : k < cells.length := (List.getElem?_eq_some_iff.1 hk).1
  simp only [List.getElem?_map]
  rw [List.getElem?_range hlt]
  simp [h3]

/-- There is room behind an array of one's own. -/
theorem arr_room {n : Nat} {tmps : Array Value} (h : St n g w e S tmps) {sz b o' cap s d id len : Nat} {cells : List PV} {more : List (List PV)} {news : List Value} (hs : s < n) (hd : d < n) (hsz : 0 < sz) (hes : e s = .arr .tail id 0 len sz)
    (hS : S id = some cells) (hcl : cells.length = len * sz)
    (hv : tmps.getD s Go.undef = .slice (some ⟨b, o', none⟩) len cap) (hroom : len + more.length ≤ cap) (hln : news.length = more.length * sz) (hlm : ∀ (j : Nat) c, more[j]? = some c → c.length = sz)
    (hrn : ∀ (j : Nat) (c : List PV) (k : Nat) v, more[j]? = some c → c[k]? = some v → ∃ u, news[j * sz + k]? = some u ∧ u.oneCell' = true ∧ Rel g w v u) :
    (∀ j, j < news.length → (w.cell? ⟨b, o' + len * sz + j, none⟩).isSome = true) ∧ (∀ j, j < news.length → w.frozen? ⟨b, o' + len * sz + j, none⟩ = false) ∧
    ∃ g', Fr g g' w (w.setCells b (o' + len * sz) news) ∧ St n g' (w.setCells b (o' + len * sz) news) ((e.put s (e s).bare).put d (.arr .tail id 0 (len + more.length) sz)) ((S.set id none).set id (some (cells.map PV.bare ++ bareAll more))) (tmps.setIfInBounds d (.slice (some ⟨b, o', none⟩) (len + more.length) cap)) := by
  have htop := h.slots s hs
  rw [hes, hv] at htop
  have htail := htop.tail
  simp only [Tail] at htail
  obtain ⟨⟨_, hid, hloc⟩, htail⟩ := htail
  simp only [Nat.add_zero, Prod.mk.injEq] at hloc
  obtain ⟨hb, ho⟩ := hloc
  have hmul : (len + more.length) * sz ≤ cap * sz := Nat.mul_le_mul_right _ hroom
  rw [Nat.add_mul] at hmul
  have hcell : ∀ j, j < news.length → g.lab b (o' + len * sz + j) = .slot s ∧ (w.cell? ⟨b, o' + len * sz + j, none⟩).isSome = true ∧ w.frozen? ⟨b, o' + len * sz + j, none⟩ = false := by
    intro j hj
    have := htail (len * sz + j) (by omega) (by omega)
    rw [← Nat.add_assoc] at this
    exact this
  refine ⟨fun j hj => (hcell j hj).2.1, fun j hj => (hcell j hj).2.2, ?_⟩
  have hL : ∀ k, k < news.length → g.lab b (o' + len * sz + k) = .slot s := fun k hk => (hcell k hk).1
  have fr1 : Fr g (g.range b (o' + len * sz) news.length (.obj id)) w (w.setCells b (o' + len * sz) news) := Fr.write (fun k hk => by rw [hL k hk]; trivial) (fun k hk => (hcell k hk).2.1) (.inr trivial)
  have fr2 := Fr.pass (g.range b (o' + len * sz) news.length (.obj id)) (w.setCells b (o' + len * sz) news) s d
  have fr := fr1.trans fr2
  refine ⟨_, fr, ?_⟩
  refine ⟨by simp [h.size], fun t ht => ?_, fun t ht => ?_, fun id' cells' hi => ?_, fun b' o'' hb' => ?_⟩
  · by_cases e1 : t = d
    · subst e1
      rw [getD_set_self _ _ _ _ (by rw [h.size]; exact ht)]
      simp only [Env.put, if_true]
      refine ⟨?_, ⟨.inr rfl, hid, by simp only [Nat.add_zero, hb, ho]; rfl⟩, fun k k1 k2 => ?_⟩
      · have := @Rel.arr ((g.range b (o' + len * sz) news.length (.obj id)).pass s t) (w.setCells b (o' + len * sz) news) .tail id 0 (len + more.length) sz cap hid hroom
        have e2 : (⟨b, o', none⟩ : Addr) = ⟨(((g.range b (o' + len * sz) news.length (.obj id)).pass s t).loc id).1, (((g.range b (o' + len * sz) news.length (.obj id)).pass s t).loc id).2 + 0, none⟩ := by
          rw [hb, ho]; rfl
        rw [e2]
        exact this
      · rw [Nat.add_mul] at k1
        obtain ⟨t1, t2, t3⟩ := htail k (by omega) k2
        have ho2 : ¬ (b = b ∧ o' + len * sz ≤ o' + k ∧ o' + k < o' + len * sz + news.length) := by omega
        refine ⟨?_, ?_, ?_⟩
        · have : (g.range b (o' + len * sz) news.length (.obj id)).lab b (o' + k) = .slot s := (range_out (by omega) _).trans t1
          simp only [Gh.pass, this, if_true]
        · rw [set_out ho2]; exact t2
        · rw [World.frozen?_setCells]; exact t3
    · rw [getD_set_ne _ _ _ _ _ e1]
      simp only [Env.put, if_neg e1]
      by_cases e2 : t = s
      · subst e2
        rw [if_pos rfl]
        exact ⟨(h.slots t ht).rel.bare.mono fr, Tail.bare _ _ _ _ _⟩
      · rw [if_neg e2]
        have := h.slots t ht
        exact ⟨this.rel.mono fr, (this.tail.write hL (by simpa using e2)).pass e2⟩
  · simp only [Env.put]
    rw [if_neg (by omega), if_neg (by omega)]
    exact h.beyond t ht
  · simp only [Store.set] at hi
    split at hi
    · rename_i heq
      subst heq
      injection hi with hi
      subst hi
      have hold := ((h.objs id' cells hS).write hL (by simp) (by simp) fr1).pass (s := s) (d := d) |>.bareCells
      refine ⟨hid, fun k v hk => ?_⟩
      by_cases hk1 : k < (cells.map PV.bare).length
      · rw [List.getElem?_append_left hk1] at hk
        exact hold.cell k v hk
      · rw [List.getElem?_append_right (by omega)] at hk
        obtain ⟨j, c, i, u, q1, q2, q3, q4⟩ := bareAll_get hlm _ v hk
        subst q3
        obtain ⟨u', p1, p2, p3⟩ := hrn j c i u q1 q2
        have hlt := (List.getElem?_eq_some_iff.1 p1).1
        have hin := World.cell?_setCells_in b news (o' + len * sz) w (fun j hj => (hcell j hj).2.1) _ hlt
        simp only [List.length_map] at hk1 q4
        have e2 : o' + len * sz + (j * sz + i) = o' + k := by omega
        rw [e2] at hin
        have hl1 : (g.range b (o' + len * sz) news.length (.obj id')).lab b (o' + k) = .obj id' := range_in (by omega) (by omega) _
        have hl2 : ((g.range b (o' + len * sz) news.length (.obj id')).pass s d).lab b (o' + k) = .obj id' := by
          simp only [Gh.pass, hl1]
          rw [if_neg (by simp)]
        have hm := (hcell (j * sz + i) hlt).2.2
        rw [e2] at hm
        have e3 : (((g.range b (o' + len * sz) news.length (.obj id')).pass s d).loc id').1 = b ∧ (((g.range b (o' + len * sz) news.length (.obj id')).pass s d).loc id').2 = o' := ⟨hb.symm, ho.symm⟩
        rw [e3.1, e3.2]
        refine ⟨hl2, by rw [World.frozen?_setCells]; exact hm, u', ?_, p2, (p3.mono fr).bare, RoomOk.bare _ _ _ _ _ _⟩
        rw [hin]
        rw [List.getElem?_eq_getElem hlt] at p1
        exact p1
    · exact ((h.objs id' cells' hi).write hL (by simp) (by simp) fr1).pass
  · rw [(setCells_size b _ _ w).1] at hb'
    have h0 := h.new b' o'' hb'
    have : (g.range b (o' + len * sz) news.length (.obj id)).lab b' o'' = .free := by
      simp only [Gh.range]
      split
      · rename_i hin
        have := lt_of_isSome (hcell 0 (by omega)).2.1
        omega
      · exact h0
    simp [Gh.pass, this]

/-- A new block for an array of one's own. -/
theorem arr_grow {n : Nat} {tmps : Array Value} (h : St n g w e S tmps) {el : TypeId} {sz s d id len cap : Nat} {cells : List PV} {more : List (List PV)} {olds news : List Value} {zs : Array Value} (hs : s < n) (hd : d < n) (h0 : 0 < sz)
    (hS : S id = some cells) (hcl : cells.length = len * sz) (hlo : olds.length = cells.length) (hro : ∀ (k : Nat) v, cells[k]? = some v → ∃ u, olds[k]? = some u ∧ w.cell? ⟨(g.loc id).1, (g.loc id).2 + k, none⟩ = some u ∧ u.oneCell' = true ∧ Rel g w v u)
    (hln : news.length = more.length * sz) (hlm : ∀ (j : Nat) c, more[j]? = some c → c.length = sz)
    (hrn : ∀ (j : Nat) (c : List PV) (k : Nat) v, more[j]? = some c → c[k]? = some v → ∃ u, news[j * sz + k]? = some u ∧ u.oneCell' = true ∧ Rel g w v u) (hcap : len + more.length ≤ cap) (hz : zs.size = (cap - (len + more.length)) * sz) :
    ∃ g', Fr g g' w (w.drew.alloc (.cells ((olds ++ news).toArray ++ zs) el)) ∧ (S.set id none) g.nxt = none ∧
      St n g' (w.drew.alloc (.cells ((olds ++ news).toArray ++ zs) el)) ((e.put s (e s).bare).put d (.arr .tail g.nxt 0 (len + more.length) sz)) ((S.set id none).set g.nxt (some (cells.map PV.bare ++ bareAll more))) (tmps.setIfInBounds d (.slice (some ⟨w.heap.size, 0, none⟩) (len + more.length) cap)) := by
  have q0 := Quiet.drew (w := w) h.new
  have q1 := q0.trans (Quiet.alloc q0.new (.cells ((olds ++ news).toArray ++ zs) el) (fun k => if k < (len + more.length) * sz then .obj g.nxt else .slot d))
  have q := q1.trans (Quiet.one q1.new w.heap.size 0)
  have hnx : (S.set id none) g.nxt = none := by
    simp only [Store.set]
    split
    · rfl
    · exact h.nxtNone
  refine ⟨_, q.toFr, hnx, ?_⟩
  have hloc : (((g.mark w.drew.heap.size fun k => if k < (len + more.length) * sz then .obj g.nxt else .slot d).one w.heap.size 0).loc g.nxt) = (w.heap.size, 0) := by
    simp [Gh.one, Gh.mark]
  have htop : Top ((g.mark w.drew.heap.size fun k => if k < (len + more.length) * sz then .obj g.nxt else .slot d).one w.heap.size 0) (w.drew.alloc (.cells ((olds ++ news).toArray ++ zs) el)) d (.arr .tail g.nxt 0 (len + more.length) sz) (.slice (some ⟨w.heap.size, 0, none⟩) (len + more.length) cap) := by
    have hnxt : g.nxt < ((g.mark w.drew.heap.size fun k => if k < (len + more.length) * sz then .obj g.nxt else .slot d).one w.heap.size 0).nxt := by simp [Gh.one, Gh.mark]
    refine ⟨?_, ⟨.inr rfl, hnxt, by rw [hloc]⟩, fun k k1 k2 => ⟨?_, ?_, ?_⟩⟩
    · have := @Rel.arr ((g.mark w.drew.heap.size fun k => if k < (len + more.length) * sz then .obj g.nxt else .slot d).one w.heap.size 0) (w.drew.alloc (.cells ((olds ++ news).toArray ++ zs) el)) .tail g.nxt 0 (len + more.length) sz cap hnxt hcap
      rw [hloc] at this
      exact this
    · simp only [Gh.one, Gh.mark, World.size_drew, if_true, Nat.zero_add]
      rw [if_neg (by omega)]
    · rw [Nat.zero_add]
      have := World.cell?_alloc_new w.drew ((olds ++ news).toArray ++ zs) el k
      rw [World.size_drew] at this
      rw [this]
      have hs : k < ((olds ++ news).toArray ++ zs).size := by
        simp only [Array.size_append, List.size_toArray, List.length_append, hlo, hcl, hln, hz, ← Nat.add_mul]
        rw [show len + more.length + (cap - (len + more.length)) = cap from by omega]
        exact k2
      rw [Array.getElem?_eq_getElem hs]
      rfl
    · have := World.frozen?_alloc_new w.drew ((olds ++ news).toArray ++ zs) el k
      rw [World.size_drew] at this
      rw [Nat.zero_add]
      exact this
  have h1 := (((h.quiet q).bareSlot s).drop (S' := S.set id none) (fun i c hi => by
    simp only [Store.set] at hi
    split at hi
    · cases hi
    · exact hi)).put hd htop
  refine ⟨h1.size, h1.slots, h1.beyond, fun id' cells' hi => ?_, h1.new⟩
  simp only [Store.set] at hi
  split at hi
  · rename_i heq
    subst heq
    injection hi with hi
    subst hi
    refine ⟨by simp [Gh.one, Gh.mark], fun k v hk => ?_⟩
    rw [hloc]
    have hlen : (cells.map PV.bare ++ bareAll more).length = (len + more.length) * sz := by
      rw [List.length_append, List.length_map, hcl, bareAll_len hlm, Nat.add_mul]
    have hkl : k < (len + more.length) * sz := by rw [← hlen]; exact (List.getElem?_eq_some_iff.1 hk).1
    have key : ∃ u, (olds ++ news)[k]? = some u ∧ u.oneCell' = true ∧ Rel g w v u := by
      by_cases hk1 : k < (cells.map PV.bare).length
      · rw [List.getElem?_append_left hk1] at hk
        simp only [List.getElem?_map, Option.map_eq_some_iff] at hk
        obtain ⟨u0, hu0, rfl⟩ := hk
        obtain ⟨u, p1, p2, p3, p4⟩ := hro k u0 hu0
        exact ⟨u, by rw [List.getElem?_append_left (List.getElem?_eq_some_iff.1 p1).1]; exact p1, p3, p4.bare⟩
      · rw [List.getElem?_append_right (by omega)] at hk
        obtain ⟨j, c, i, u0, p1, p2, p3, p4⟩ := bareAll_get hlm _ v hk
        subst p3
        obtain ⟨u, r1, r2, r3⟩ := hrn j c i u0 p1 p2
        simp only [List.length_map] at hk1 p4
        refine ⟨u, ?_, r2, r3.bare⟩
        rw [List.getElem?_append_right (by omega), show k - olds.length = j * sz + i from by omega]
        exact r1
    obtain ⟨u, r1, r2, r3⟩ := key
    have hbare : v.bare = v := by
      have : v ∈ cells.map PV.bare ++ bareAll more := List.mem_of_getElem? hk
      simp only [bareAll, List.mem_append, List.mem_map] at this
      rcases this with ⟨x, _, rfl⟩ | ⟨x, _, rfl⟩ <;> exact PV.bare_bare x
    refine ⟨?_, ?_, u, ?_, r2, r3.mono q.toFr, RoomOk.ofBare hbare⟩
    · simp only [Gh.one, Gh.mark, World.size_drew, if_true, Nat.zero_add]
      rw [if_pos hkl]
    · have := World.frozen?_alloc_new w.drew ((olds ++ news).toArray ++ zs) el k
      rw [World.size_drew] at this
      rw [Nat.zero_add]
      exact this
    · have := World.cell?_alloc_new w.drew ((olds ++ news).toArray ++ zs) el k
      rw [World.size_drew] at this
      rw [Nat.zero_add, this, Array.getElem?_append_left (by simp only [List.size_toArray]; exact (List.getElem?_eq_some_iff.1 r1).1)]
      simpa using r1
  · exact h1.objs id' cells' hi
end
end Go.VL
