/- VL, part 13: append as an operation; calls. -/
import Derived.Test.YtmedhhjbknnfkaaVL12
set_option linter.unusedVariables false
set_option linter.unusedSimpArgs false
namespace Go.VL
open Go

section
variable {C : Ctx} {X : Fx} {o : Oper} {g : Gh} {w : World} {a : Act} {e : Env} {S : Store} {K : Env → Store → Prop} {R : Act → World → Prop} {Q : Exit → Act → World → Prop}

theorem pappend_ok {ts : Array TypeId} {s x : PV} {rx : Value} {sz : Nat} {rows more : List (List PV)} (hp : pappend C ts.toList s x = some (sz, rows, more)) (hx : Rel g w x rx) :
    ∃ t tx el te, ts = #[t, tx] ∧ C.P.underlying t = some (.slice el) ∧ C.T el = some te ∧ te.size = sz ∧ 0 < sz ∧ s = .sl .tail sz rows ∧ (rows.length + more.length) * te.bytes ≤ 140737488355328 ∧ rows.length + more.length ≤ 140737488355328 ∧ ∃ news, SrcOf C g w sz tx rx more news := by
  unfold pappend at hp
  split at hp
  · rename_i t tx hts
    have hts : ts = #[t, tx] := by
      apply Array.ext'
      simpa using hts
    split at hp
    · rename_i el _ _ _ hT
      have hu := und_slice (C := C) hT rfl
      split at hp
      · rename_i te hte
        split at hp
        · rename_i sz1 rows1
          unfold pappendTo at hp
          split at hp
          · rename_i ti hTx
            split at hp
            · rename_i ex f2 sz2 more2 hk
              have hux := und_slice (C := C) hTx hk
              split at hp
              · rename_i hc
                injection hp with hp
                injection hp with h1 h2
                injection h2 with h2 h3
                subst h1; subst h2; subst h3
                obtain ⟨c1, c2, c3, c4, c5⟩ := hc
                subst c2
                obtain ⟨news, hn⟩ := src_of_sl (C := C) c3 hux hx
                exact ⟨t, tx, el, te, hts, hu, hte, c1, c3, rfl, c4, c5, news, hn⟩
              · cases hp
            · rename_i b hk
              have hux := und_str (C := C) hTx hk
              split at hp
              · rename_i hc
                injection hp with hp
                injection hp with h1 h2
                injection h2 with h2 h3
                subst h1; subst h2; subst h3
                obtain ⟨c1, c2, c4, c5⟩ := hc
                subst c2
                have := rel_str hx
                subst this
                have hlen : (b.data.toList.map fun c => ([.int .u8 (c.toNat : Int)] : List PV)).length = b.size := by simp
                exact ⟨t, tx, el, te, hts, hu, hte, c1, Nat.one_pos, rfl, by rw [hlen]; exact c4, by rw [hlen]; exact c5, _, src_of_str hux⟩
              · cases hp
            · cases hp
          · cases hp
        · cases hp
      · cases hp
    · cases hp
  · cases hp

theorem news_one {sz : Nat} {tx : TypeId} {x : Value} {more : List (List PV)} {news : List Value} (h : SrcOf C g w sz tx x more news) :
    ∀ (j : Nat) (c : List PV) (k : Nat) v, more[j]? = some c → c[k]? = some v → ∃ u, news[j * sz + k]? = some u ∧ u.oneCell' = true ∧ Rel g w v u := by
  intro j c k v hj hk
  obtain ⟨u, h1, h2⟩ := h.rel j c k v hj hk
  exact ⟨u, h1, h.src.one u (List.mem_of_getElem? h1), h2⟩

def srcEnv (e : Env) : Option Nat → Env
  | none => e
  | some s => e.put s (e s).bare

/-- append, whatever the first slice is: a row that grows, or one that does not. -/
theorem append_run {n : Nat} {tmps : Array Value} (h : St n g w e S tmps) {t tx ty el : TypeId} {te : TI} {sz : Nat} {rows more : List (List PV)} {rx rs : Value} {news : List Value} (hu : C.P.underlying t = some (.slice el)) (hte : C.T el = some te) (hsz : te.size = sz) (h0 : 0 < sz)
    (hb : (rows.length + more.length) * te.bytes ≤ 140737488355328) (hl : rows.length + more.length ≤ 140737488355328) (hn : SrcOf C g w sz tx rx more news) {d : Nat} (hd : d < n) (src : Option Nat)
    (hs : match src with | none => rs = .slice none 0 0 ∧ rows = [] | some s => s < n ∧ e s = .sl .tail sz rows ∧ tmps.getD s Go.undef = rs) :
    ∃ rv w' g', (Builtin.append_ #[t, tx] ty #[rs, rx]).run C.P w = .ok rv w' ∧ Fr g g' w w' ∧ St n g' w' ((srcEnv e src).put d (.sl .tail sz (rows ++ more))) S (tmps.setIfInBounds d rv) := by
  obtain ⟨i, z, hi, hisz, hib, hz, hzs, _⟩ := (C.hT _ _ hte).info
  have hsrc := hn.src
  rw [← hsz, ← hisz] at hsrc
  have hln := hn.src.newsLen
  have close : ∀ {g' w' rv}, Quiet g g' w w' → Top g' w' d (.sl .tail sz (rows ++ more)) rv → St n g' w' ((srcEnv e src).put d (.sl .tail sz (rows ++ more))) S (tmps.setIfInBounds d rv) := by
    intro g' w' rv q ht
    cases src with
    | none => exact (h.quiet q).put hd ht
    | some s => exact ((h.quiet q).bareSlot s).put hd ht
  have nilCase : rs = .slice none 0 0 → rows = [] → ∃ rv w' g', (Builtin.append_ #[t, tx] ty #[rs, rx]).run C.P w = .ok rv w' ∧ Fr g g' w w' ∧ St n g' w' ((srcEnv e src).put d (.sl .tail sz (rows ++ more))) S (tmps.setIfInBounds d rv) := by
    intro hrs hrows
    subst hrs; subst hrows
    by_cases hm : more.length = 0
    · have hme : more = [] := List.eq_nil_of_length_eq_zero hm
      subst hme
      have hnews : news = [] := List.eq_nil_of_length_eq_zero (by rw [hln]; simp)
      subst hnews
      have hl0 : ∀ w', (Builtin.lenOf rx).run C.P w' = .ok 0 w' := hsrc.len
      have hc0 : (Builtin.firstCells i.size 0 rx).run C.P w = .ok #[] w := hsrc.cells
      have hrun : (Builtin.append_ #[t, tx] ty #[.slice none 0 0, rx]).run C.P w = .ok (.slice none 0 0) w := by
        rcases hsrc.kind with ⟨e', hk⟩ | hk <;> simp [Builtin.append_, run_underlying hu, run_underlying hk, sizeOf, typeInfo, hi, hl0, hc0]
      have ht : Top g w d (.sl .tail sz ([] ++ [])) (.slice none 0 0) := ⟨.slnil _ _, by simp [Tail]⟩
      exact ⟨_, w, g, hrun, Fr.refl g w, close (Quiet.refl h.new) ht⟩
    · simp only [List.length_nil, Nat.zero_add] at hb hl
      have hfit : Builtin.nextslicecap (0 + more.length) 0 * i.bytes ≤ 281474976710656 := growslice_fits (by omega) (by rw [hib, Nat.zero_add]; exact hb)
      have hrun := run_append_grow_src (P := C.P) w t tx ty el i z hu hi hz none 0 0 [] (run_firstCells_none w.drew i.size 0 0 0) rx more.length news hsrc (by omega) (by omega) hfit
      obtain ⟨g', q, ht⟩ := append_new (d := d) h.new (el := el) (sz := sz) (rows := []) (more := more) (olds := []) (news := news) (zs := Builtin.zeroCells z.cells (grownCap w (0 + more.length) 0 el - (0 + more.length))) (cap := grownCap w (0 + more.length) 0 el) (by simp) hln (by simp) hn.len (by simp) (news_one hn) (grownCap_ge w _ _ _) (by
        rw [size_zeroCells, hzs, hsz]
        rfl)
      exact ⟨_, _, g', hrun, q.toFr, close q ht⟩
  cases src with
  | none => exact nilCase hs.1 hs.2
  | some s =>
    obtain ⟨hsn, hes, hrs⟩ := hs
    have htop := h.slots s hsn
    rw [hes, hrs] at htop
    rcases sl_parts htop.rel with ⟨h1, h2⟩ | ⟨b, o', sp, cap, h1, hcap, hsp⟩
    · exact nilCase h1 h2
    · subst h1
      by_cases hroom : rows.length + more.length ≤ cap
      · by_cases hz0 : cap = 0
        · subst hz0
          have hr0 : rows = [] := List.eq_nil_of_length_eq_zero (by omega)
          subst hr0
          have hm0 : more = [] := List.eq_nil_of_length_eq_zero (by omega)
          subst hm0
          have hnews : news = [] := List.eq_nil_of_length_eq_zero (by rw [hln]; simp)
          subst hnews
          have hrun : (Builtin.append_ #[t, tx] ty #[.slice (some ⟨b, o', sp⟩) 0 0, rx]).run C.P w = .ok (.slice (some ⟨b, o', sp⟩) 0 0) w := by
            have hl0 : ∀ w', (Builtin.lenOf rx).run C.P w' = .ok 0 w' := hsrc.len
            have hc0 : (Builtin.firstCells i.size 0 rx).run C.P w = .ok #[] w := hsrc.cells
            have hst : ∀ a : Addr, (storeCells a [] 0).run C.P w = .ok () w := by
              intro a
              unfold storeCells
              rfl
            rcases hsrc.kind with ⟨e', hk⟩ | hk <;> simp [Builtin.append_, run_underlying hu, run_underlying hk, sizeOf, typeInfo, hi, hl0, hc0, hst]
          refine ⟨_, w, g, hrun, Fr.refl g w, close (Quiet.refl h.new) ?_⟩
          exact ⟨htop.rel, .inl (by simp), fun k k1 k2 => by simp at k2⟩
        have hsp : sp = none := by
          rcases htop.tail.1 with e1 | e1
          · rcases Nat.mul_eq_zero.1 e1 with e1 | e1
            · exact absurd e1 hz0
            · omega
          · exact e1
        subst hsp
        obtain ⟨a1, a2, g', fr, hst⟩ := append_room h (more := more) hsn hd h0 hes hrs hroom hln hn.len (news_one hn)
        have hrun := run_append_room_src (P := C.P) w t tx ty el i hu hi b o' rows.length cap rx more.length news hsrc hroom (by rw [hisz, hsz]; exact a1) (by rw [hisz, hsz]; exact a2)
        rw [hisz, hsz] at hrun
        exact ⟨_, _, g', hrun, fr, hst⟩
      · obtain ⟨olds, q1, q2, q3, q4⟩ := sl_cells h0 htop.rel
        have hfit : Builtin.nextslicecap (rows.length + more.length) cap * i.bytes ≤ 281474976710656 := growslice_fits (by omega) (by rw [hib]; exact hb)
        have hold : (Builtin.firstCells i.size rows.length (.slice (some ⟨b, o', sp⟩) rows.length cap)).run C.P w.drew = .ok olds.toArray w.drew := run_firstCells_some w.drew i.size rows.length ⟨b, o', sp⟩ rows.length cap olds (by rw [q1, hisz, hsz]) (fun j u hj => by rw [World.cell?_drew]; exact (q2 j u hj).1)
        have hrun := run_append_grow_src (P := C.P) w t tx ty el i z hu hi hz (some ⟨b, o', sp⟩) rows.length cap olds hold rx more.length news hsrc (by omega) (by omega) hfit
        obtain ⟨g', q, ht⟩ := append_new (d := d) h.new (el := el) (sz := sz) (rows := rows) (more := more) (olds := olds) (news := news) (zs := Builtin.zeroCells z.cells (grownCap w (rows.length + more.length) cap el - (rows.length + more.length))) (cap := grownCap w (rows.length + more.length) cap el) q1 hln q3 hn.len (fun j c k v hj hk => by
          obtain ⟨u, r1, r2⟩ := q4 j c k v hj hk
          exact ⟨u, r1, (q2 _ _ r1).2, r2⟩) (news_one hn) (grownCap_ge w _ _ _) (by rw [size_zeroCells, hzs, hsz])
        exact ⟨_, _, g', hrun, q.toFr, close q ht⟩

theorem arows_len {cells : List PV} {off len sz : Nat} : (arows cells off len sz).length = len := by simp [arows]
theorem arows_get {cells : List PV} {off len sz j : Nat} {c : List PV} (h : (arows cells off len sz)[j]? = some c) : j < len ∧ c = ((cells.drop (off + j * sz)).take sz).map PV.bare := by
  simp only [arows, List.getElem?_map, Option.map_eq_some_iff] at h
  obtain ⟨i, hi, rfl⟩ := h
  obtain ⟨hlt, he⟩ := List.getElem?_eq_some_iff.1 hi
  simp at hlt he
  subst he
  exact ⟨hlt, rfl⟩

theorem src_of_arr {f : Fl} {id off len sz : Nat} {cells : List PV} {tx el : TypeId} {x : Value} (hsz : 0 < sz) (hu : C.P.underlying tx = some (.slice el)) (hob : ObjOk g w id cells) (hle : off + len * sz ≤ cells.length) (h : Rel g w (.arr f id off len sz) x) :
    ∃ news, SrcOf C g w sz tx x (arows cells off len sz) news := by
  cases h with
  | arr0 f id off sz a cap ha =>
    cases a with
    | none =>
      rw [ha rfl]
      exact ⟨[], Src.ofNil w hu 0, by simp [arows], by simp [arows]⟩
    | some a =>
      exact ⟨[], Src.ofSlice w hu _ _ _ [] (by simp) (by simp) (by simp), by simp [arows], by simp [arows]⟩
  | @arr _ _ _ _ _ cap hid hcap =>
    have hmul : ∀ j, j < len → j * sz + sz ≤ len * sz := fun j hj => by
      have : (j + 1) * sz ≤ len * sz := Nat.mul_le_mul_right _ hj
      rw [Nat.add_mul] at this
      omega
    have hval : ∀ i, i < len * sz → ∃ u, w.cell? ⟨(g.loc id).1, (g.loc id).2 + (off + i), none⟩ = some u ∧ u.oneCell' = true ∧ ∀ v, cells[off + i]? = some v → Rel g w v u := by
      intro i hi
      obtain ⟨_, _, u, h3, h4, h5, _⟩ := hob.cell (off + i) _ (List.getElem?_eq_getElem (by omega))
      exact ⟨u, h3, h4, fun v hv => by rw [List.getElem?_eq_getElem (by omega)] at hv; injection hv with hv; subst hv; exact h5⟩
    refine ⟨(List.range (len * sz)).map fun i => (w.cell? ⟨(g.loc id).1, (g.loc id).2 + (off + i), none⟩).getD Go.undef, ⟨?_, fun j c hj => ?_, fun j c k v hj hk => ?_⟩⟩
    · rw [arows_len]
      refine Src.ofSlice w hu _ _ _ _ (by simp) (fun j u hj => ?_) (fun u hu => ?_)
      · simp only [List.getElem?_map, Option.map_eq_some_iff] at hj
        obtain ⟨i, hi, rfl⟩ := hj
        obtain ⟨hlt, he⟩ := List.getElem?_eq_some_iff.1 hi
        simp at hlt he
        subst he
        obtain ⟨u, h3, _⟩ := hval j hlt
        rw [Addr.add_lit, Nat.add_assoc, h3]
        rfl
      · simp only [List.mem_map, List.mem_range] at hu
        obtain ⟨i, hi, rfl⟩ := hu
        obtain ⟨u, h3, h4, _⟩ := hval i hi
        rw [h3]
        exact h4
    · obtain ⟨hlt, rfl⟩ := arows_get hj
      have := hmul j hlt
      simp only [List.length_map, List.length_take, List.length_drop]
      omega
    · obtain ⟨hlt, rfl⟩ := arows_get hj
      have := hmul j hlt
      simp only [List.getElem?_map, Option.map_eq_some_iff, List.getElem?_take, List.getElem?_drop] at hk
      obtain ⟨u0, hu0, rfl⟩ := hk
      split at hu0
      · rename_i hks
        obtain ⟨u, h3, h4, h5⟩ := hval (j * sz + k) (by omega)
        refine ⟨u, ?_, (h5 u0 (by rw [← Nat.add_assoc]; exact hu0)).bare⟩
        simp only [List.getElem?_map]
        rw [List.getElem?_range (by omega)]
        simp [h3]
      · cases hu0

omit g w a e S K R Q o X in
theorem pappendTo_undef {te : TI} {tx : TypeId} {sz : Nat} {rows : List (List PV)} : pappendTo C te tx sz rows .undef = none := by
  unfold pappendTo
  cases C.T tx with
  | none => rfl
  | some ti =>
    obtain ⟨k, _, _, _⟩ := ti
    cases k <;> rfl
omit g w a e S K R Q o X in
theorem pappend_undef {ts : List TypeId} {s : PV} : pappend C ts s .undef = none := by
  unfold pappend
  split
  · split
    · split
      · split
        · exact pappendTo_undef
        · rfl
      · rfl
    · rfl
  · rfl

/-- What is appended, of a slice or of an array of one's own. -/
theorem vw_src {n : Nat} {tmps : Array Value} (h : St n g w e S tmps) {ts : Array TypeId} {s x : PV} {rx : Value} {sz : Nat} {rows more : List (List PV)} (hp : pappend C ts.toList s (vw S x) = some (sz, rows, more)) (hx : Rel g w x rx) :
    ∃ t tx el te, ts = #[t, tx] ∧ C.P.underlying t = some (.slice el) ∧ C.T el = some te ∧ te.size = sz ∧ 0 < sz ∧ s = .sl .tail sz rows ∧ (rows.length + more.length) * te.bytes ≤ 140737488355328 ∧ rows.length + more.length ≤ 140737488355328 ∧ ∃ news, SrcOf C g w sz tx rx more news := by
  unfold vw at hp
  split at hp
  · rename_i f id off len sz'
    split at hp
    · rename_i cells hS
      split at hp
      · rename_i hle
        -- the view has the make of a slice of frozen rows: the source alone is another
        unfold pappend at hp
        split at hp
        · rename_i t tx hts
          have hts : ts = #[t, tx] := by
            apply Array.ext'
            simpa using hts
          split at hp
          · rename_i el _ _ _ hT
            have hu := und_slice (C := C) hT rfl
            split at hp
            · rename_i te hte
              split at hp
              · rename_i sz1 rows1
                unfold pappendTo at hp
                split at hp
                · rename_i ti hTx
                  split at hp
                  · rename_i ex f2 sz2 more2 hk heq
                    injection heq with e1 e2 e3
                    subst e2; subst e3
                    have hux := und_slice (C := C) hTx hk
                    split at hp
                    · rename_i hc
                      injection hp with hp
                      injection hp with h1 h2
                      injection h2 with h2 h3
                      subst h1; subst h2; subst h3
                      obtain ⟨c1, c2, c3, c4, c5⟩ := hc
                      subst c2
                      obtain ⟨news, hn⟩ := src_of_arr (C := C) c3 hux (h.objs _ _ hS) hle hx
                      exact ⟨t, tx, el, te, hts, hu, hte, c1, c3, rfl, c4, c5, news, hn⟩
                    · cases hp
                  · rename_i heq; cases heq
                  · cases hp
                · cases hp
              · cases hp
            · cases hp
          · cases hp
        · cases hp
      · rw [pappend_undef] at hp
        cases hp
    · rw [pappend_undef] at hp
      cases hp
  · exact pappend_ok hp hx

/-- append to an array of one's own: it grows, or it moves. -/
theorem append_arr {n : Nat} {tmps : Array Value} (h : St n g w e S tmps) {t tx ty el : TypeId} {te : TI} {sz len id s d : Nat} {cells : List PV} {more : List (List PV)} {rx : Value} {news : List Value} (hu : C.P.underlying t = some (.slice el)) (hte : C.T el = some te) (hsz : te.size = sz) (h0 : 0 < sz)
    (hb : (len + more.length) * te.bytes ≤ 140737488355328) (hl : len + more.length ≤ 140737488355328) (hn : SrcOf C g w sz tx rx more news) (hd : d < n) (hs : s < n) (hes : e s = .arr .tail id 0 len sz) (hS : S id = some cells) (hcl : cells.length = len * sz) :
    ∃ rv w' g' id', (Builtin.append_ #[t, tx] ty #[tmps.getD s Go.undef, rx]).run C.P w = .ok rv w' ∧ Fr g g' w w' ∧ (S.set id none) id' = none ∧
      St n g' w' ((e.put s (e s).bare).put d (.arr .tail id' 0 (len + more.length) sz)) ((S.set id none).set id' (some (cells.map PV.bare ++ bareAll more))) (tmps.setIfInBounds d rv) := by
  obtain ⟨i, z, hi, hisz, hib, hz, hzs, _⟩ := (C.hT _ _ hte).info
  have hsrc := hn.src
  rw [← hsz, ← hisz] at hsrc
  have hln := hn.src.newsLen
  obtain ⟨olds, ho1, ho2⟩ := arr_cells (h.objs _ _ hS)
  have htop := h.slots s hs
  have hset : ∀ c, (S.set id none).set id (some c) = S.set id (some c) := fun c => by
    funext i; simp only [Store.set]; split <;> rfl
  generalize hrs : tmps.getD s Go.undef = rs at htop
  rw [hes] at htop
  have grow : ∀ (a : Option Addr) (cap : Nat), rs = .slice a len cap → ¬ (len + more.length ≤ cap) → (len = 0 ∨ a = some ⟨(g.loc id).1, (g.loc id).2, none⟩) → ∃ rv w' g' id', (Builtin.append_ #[t, tx] ty #[rs, rx]).run C.P w = .ok rv w' ∧ Fr g g' w w' ∧ (S.set id none) id' = none ∧
      St n g' w' ((e.put s (e s).bare).put d (.arr .tail id' 0 (len + more.length) sz)) ((S.set id none).set id' (some (cells.map PV.bare ++ bareAll more))) (tmps.setIfInBounds d rv) := by
    intro a cap hrv hroom hbase
    subst hrv
    have hfit : Builtin.nextslicecap (len + more.length) cap * i.bytes ≤ 281474976710656 := growslice_fits (by omega) (by rw [hib]; exact hb)
    have hold : (Builtin.firstCells i.size len (.slice a len cap)).run C.P w.drew = .ok olds.toArray w.drew := by
      rcases hbase with rfl | rfl
      · have hc0 : cells = [] := List.eq_nil_of_length_eq_zero (by rw [hcl]; simp)
        have hol : olds = [] := List.eq_nil_of_length_eq_zero (by rw [ho1, hc0]; rfl)
        subst hol
        cases a with
        | none => exact run_firstCells_none w.drew i.size 0 0 cap
        | some a => exact run_firstCells_some w.drew i.size 0 a 0 cap [] (by simp) (by simp)
      · refine run_firstCells_some w.drew i.size len ⟨(g.loc id).1, (g.loc id).2, none⟩ len cap olds (by rw [ho1, hcl, hisz, hsz]) (fun j u hj => ?_)
        have hlt := (List.getElem?_eq_some_iff.1 hj).1
        obtain ⟨u', p1, p2, _⟩ := ho2 j _ (List.getElem?_eq_getElem (by omega))
        rw [hj] at p1
        injection p1 with p1
        subst p1
        rw [World.cell?_drew, Addr.add_lit]
        exact p2
    have hrun := run_append_grow_src (P := C.P) w t tx ty el i z hu hi hz a len cap olds hold rx more.length news hsrc (by omega) (by omega) hfit
    obtain ⟨g', fr, hnx, hst⟩ := arr_grow (d := d) h (el := el) (cap := grownCap w (len + more.length) cap el) (zs := Builtin.zeroCells z.cells (grownCap w (len + more.length) cap el - (len + more.length))) hs hd h0 hS hcl ho1 ho2 hln hn.len (news_one hn) (grownCap_ge w _ _ _) (by rw [size_zeroCells, hzs, hsz])
    exact ⟨_, _, g', _, hrun, fr, hnx, hst⟩
  have keep : ∀ {rv}, more.length = 0 → (Builtin.append_ #[t, tx] ty #[rs, rx]).run C.P w = .ok rv w → Top g w d (.arr .tail id 0 len sz) rv → ∃ rv w' g' id', (Builtin.append_ #[t, tx] ty #[rs, rx]).run C.P w = .ok rv w' ∧ Fr g g' w w' ∧ (S.set id none) id' = none ∧
      St n g' w' ((e.put s (e s).bare).put d (.arr .tail id' 0 (len + more.length) sz)) ((S.set id none).set id' (some (cells.map PV.bare ++ bareAll more))) (tmps.setIfInBounds d rv) := by
    intro rv hm hrun ht
    have hme : more = [] := List.eq_nil_of_length_eq_zero hm
    subst hme
    refine ⟨_, w, g, id, hrun, Fr.refl g w, by simp [Store.set], ?_⟩
    rw [hset]
    have h1 := (h.bareSlot s).put hd ht
    refine ⟨h1.size, h1.slots, h1.beyond, fun id' cells' hi => ?_, h1.new⟩
    simp only [Store.set] at hi
    split at hi
    · rename_i heq
      subst heq
      injection hi with hi
      subst hi
      have := (h.objs _ _ hS).bareCells
      simpa [bareAll] using this
    · exact h.objs id' cells' hi
  cases htop.rel with
  | arr0 f id off sz a cap ha =>
    cases a with
    | none =>
      have hc0 := ha rfl
      subst hc0
      by_cases hm : more.length = 0
      · have hme : more = [] := List.eq_nil_of_length_eq_zero hm
        subst hme
        have hnews : news = [] := List.eq_nil_of_length_eq_zero (by rw [hln]; simp)
        subst hnews
        have hl0 : ∀ w', (Builtin.lenOf rx).run C.P w' = .ok 0 w' := hsrc.len
        have hc0 : (Builtin.firstCells i.size 0 rx).run C.P w = .ok #[] w := hsrc.cells
        have hrun : (Builtin.append_ #[t, tx] ty #[.slice none 0 0, rx]).run C.P w = .ok (.slice none 0 0) w := by
          rcases hsrc.kind with ⟨e', hk⟩ | hk <;> simp [Builtin.append_, run_underlying hu, run_underlying hk, sizeOf, typeInfo, hi, hl0, hc0]
        exact keep rfl hrun ⟨.arr0 _ _ _ _ _ _ (fun _ => rfl), by simp [Tail]⟩
      · exact grow none 0 rfl (by omega) (.inl rfl)
    | some a =>
      by_cases hroom : 0 + more.length ≤ cap
      · by_cases hz0 : cap = 0
        · subst hz0
          have hm0 : more = [] := List.eq_nil_of_length_eq_zero (by omega)
          subst hm0
          have hnews : news = [] := List.eq_nil_of_length_eq_zero (by rw [hln]; simp)
          subst hnews
          have hrun : (Builtin.append_ #[t, tx] ty #[.slice (some a) 0 0, rx]).run C.P w = .ok (.slice (some a) 0 0) w := by
            have hl0 : ∀ w', (Builtin.lenOf rx).run C.P w' = .ok 0 w' := hsrc.len
            have hc0 : (Builtin.firstCells i.size 0 rx).run C.P w = .ok #[] w := hsrc.cells
            have hst : ∀ a : Addr, (storeCells a [] 0).run C.P w = .ok () w := by
              intro a
              unfold storeCells
              rfl
            rcases hsrc.kind with ⟨e', hk⟩ | hk <;> simp [Builtin.append_, run_underlying hu, run_underlying hk, sizeOf, typeInfo, hi, hl0, hc0, hst]
          have htl := htop.tail
          refine keep rfl hrun ⟨.arr0 _ _ _ _ _ _ (by simp), ?_⟩
          simp only [Tail] at htl ⊢
          exact ⟨htl.1, fun k k1 k2 => by simp at k2⟩
        · obtain ⟨b, o', sp⟩ := a
          have hsp : sp = none := by
            have := htop.tail
            simp only [Tail] at this
            rcases this.1.1 with e1 | e1
            · rcases Nat.mul_eq_zero.1 e1 with e1 | e1
              · exact absurd e1 hz0
              · omega
            · exact e1
          subst hsp
          obtain ⟨a1, a2, g', fr, hst⟩ := arr_room h (more := more) hs hd h0 hes hS hcl hrs hroom hln hn.len (news_one hn)
          have hrun := run_append_room_src (P := C.P) w t tx ty el i hu hi b o' 0 cap rx more.length news hsrc hroom (by rw [hisz, hsz]; exact a1) (by rw [hisz, hsz]; exact a2)
          rw [hisz, hsz] at hrun
          exact ⟨_, _, g', _, hrun, fr, by simp [Store.set], hst⟩
      · exact grow (some a) cap rfl hroom (.inl rfl)
  | @arr _ _ _ _ _ cap hid hcap =>
    by_cases hroom : len + more.length ≤ cap
    · obtain ⟨a1, a2, g', fr, hst⟩ := arr_room h (more := more) hs hd h0 hes hS hcl hrs hroom hln hn.len (news_one hn)
      have hrun := run_append_room_src (P := C.P) w t tx ty el i hu hi (g.loc id).1 ((g.loc id).2 + 0) len cap rx more.length news hsrc hroom (by rw [hisz, hsz]; exact a1) (by rw [hisz, hsz]; exact a2)
      rw [hisz, hsz] at hrun
      exact ⟨_, _, g', _, hrun, fr, by simp [Store.set], hst⟩
    · exact grow _ cap rfl hroom (.inr rfl)

/-- An empty slice becomes an array of one's own. -/
theorem St.toArr {n : Nat} {tmps : Array Value} (h : St n g w e S tmps) {s sz : Nat} (hs : s < n) (hes : e s = .sl .tail sz []) :
    ∃ g', Fr g g' w w ∧ St n g' w (e.put s (.arr .tail g.nxt 0 0 sz)) (S.set g.nxt (some [])) tmps := by
  have htop := h.slots s hs
  rw [hes] at htop
  obtain ⟨a, cap, hrv, ha⟩ : ∃ a cap, tmps.getD s Go.undef = .slice a 0 cap ∧ (a = none → cap = 0) := by
    rcases sl_parts htop.rel with ⟨h1, _⟩ | ⟨b, o', sp, cap, h1, _, _⟩
    · exact ⟨none, 0, h1, fun _ => rfl⟩
    · exact ⟨_, cap, h1, by simp⟩
  have key : ∀ b o, (∀ a', a = some a' → b = a'.block ∧ o = a'.off) → ∃ g', Fr g g' w w ∧ St n g' w (e.put s (.arr .tail g.nxt 0 0 sz)) (S.set g.nxt (some [])) tmps := by
    intro b o hbo
    have h1 := h.one b o
    refine ⟨_, Fr.one g w b o, h1.size, fun t ht => ?_, fun t ht => ?_, h1.objs, h1.new⟩
    · simp only [Env.put]
      split
      · rename_i heq
        subst heq
        rw [hrv]
        refine ⟨.arr0 _ _ _ _ _ _ ha, ?_⟩
        cases a with
        | none => simp [Tail]
        | some a =>
          have htl := (h1.slots t ht).tail
          rw [hes, hrv] at htl
          simp only [Tail, List.length_nil, Nat.zero_mul] at htl ⊢
          refine ⟨⟨htl.1, by simp [Gh.one], ?_⟩, htl.2⟩
          obtain ⟨e1, e2⟩ := hbo a rfl
          simp [Gh.one, e1, e2]
      · exact h1.slots t ht
    · simp only [Env.put]
      rw [if_neg (by omega)]
      exact h1.beyond t ht
  cases a with
  | none => exact key 0 0 (by simp)
  | some a => exact key a.block a.off (by rintro a' h; injection h with h; subst h; exact ⟨rfl, rfl⟩)

theorem vAppArr_sound {ts : Array TypeId} {s d : Nat} {x : Operand} (ho : o.op = .call ⟨.builtin .append, #[.tmp s, x], ts⟩) (hd : o.dst = some d) (h : St X.n g w e S a.tmps) (hv : vAppArr C X s ts.toList (vw S (ev x e)) d K e S (e s)) (hR : Goes X g w a K R) : o.wp C.P a w R Q := by
  have run : ∀ {rv : Value} {w' : World}, (Builtin.append_ ts o.type #[a.eval (.tmp s), a.eval x]).run C.P w = .ok rv w' → (execOp a.eval o).run C.P w = .ok (.value rv) w' := by
    intro rv w' hrun
    simp [execOp, ho, resolve, invoke, builtin, hrun]
  generalize hes : e s = p at hv
  unfold vAppArr at hv
  split at hv
  · rename_i id len sz
    split at hv
    · rename_i cells sz' rows more hS hp
      split at hv
      · rename_i hc
        obtain ⟨t, tx, el, te, rfl, hu, hte, hsz, h0, hsl, hb, hl, news, hn⟩ := vw_src h hp (h.ev x)
        injection hsl with _ e1 e2
        subst e1; subst e2
        rw [List.length_replicate] at hb hl
        obtain ⟨rv, w', g', id', hrun, fr, hnx, hst⟩ := append_arr h (ty := o.type) hu hte hsz h0 hb hl hn hc.1 hc.2.1 hes hS hc.2.2
        unfold Oper.wp
        rw [run hrun, Oper.upon_value, hd]
        have hv := hv id' hnx
        exact hR _ _ _ _ _ hv (by rw [put_tmps]; exact hst) (put_defers _ _ _) fr
      · exact hv.elim
    · exact hv.elim
  · rename_i sz
    split at hv
    · rename_i sz' rows more hp
      split at hv
      · rename_i hc
        obtain ⟨t, tx, el, te, rfl, hu, hte, hsz, h0, hsl, hb, hl, news, hn⟩ := vw_src h hp (h.ev x)
        injection hsl with _ e1 e2
        subst e1; subst e2
        obtain ⟨g1, fr1, hst1⟩ := h.toArr hc.2 hes
        have hn1 : SrcOf C g1 w sz tx (a.eval x) more news := ⟨hn.src, hn.len, fun j c k v hj hk => by obtain ⟨u, q1, q2⟩ := hn.rel j c k v hj hk; exact ⟨u, q1, q2.mono fr1⟩⟩
        obtain ⟨rv, w', g', id', hrun, fr, hnx, hst⟩ := append_arr hst1 (ty := o.type) (len := 0) (cells := []) (id := g.nxt) hu hte hsz h0 (by simpa using hb) (by simpa using hl) hn1 hc.1 hc.2 (by simp [Env.put]) (by simp [Store.set]) (by simp)
        have hsn : S g.nxt = none := h.nxtNone
        have e3 : ((S.set g.nxt (some [])).set g.nxt none) = S := by
          funext i; simp only [Store.set]; split
          · rename_i hi; subst hi; exact hsn.symm
          · rfl
        rw [e3] at hnx hst
        unfold Oper.wp
        rw [run hrun, Oper.upon_value, hd]
        refine hR _ _ _ _ _ (hv id' hnx) ?_ (put_defers _ _ _) (fr1.trans fr)
        rw [put_tmps]
        have e4 : ((e.put s (.arr .tail g.nxt 0 0 sz)).put s ((e.put s (.arr .tail g.nxt 0 0 sz)) s).bare) = e.put s (.arr .no g.nxt 0 0 sz) := by
          funext i; simp only [Env.put, if_true]; split <;> rfl
        rw [e4] at hst
        have hbare : (PV.sl .tail sz []).bare = .sl .no sz [] := rfl
        refine ⟨hst.size, fun t ht => ?_, fun t ht => ?_, ?_, hst.new⟩
        · have := hst.slots t ht
          simp only [Env.put] at this ⊢
          split
          · rename_i h1; rw [if_pos h1] at this; simpa using this
          · rename_i h1
            rw [if_neg h1] at this
            split
            · rename_i h2
              subst h2
              rw [getD_set_ne _ _ _ _ _ h1]
              have h3 := ((h.slots t ht).rel.mono fr1).mono fr
              rw [hes] at h3 ⊢
              exact ⟨h3.bare, Tail.bare _ _ _ _ _⟩
            · rename_i h2; rw [if_neg h2] at this; exact this
        · have := hst.beyond t ht
          simp only [Env.put] at this ⊢
          have h2 : @LT.lt Nat _ s X.n := hc.2
          have h3 : @LT.lt Nat _ d X.n := hc.1
          rw [if_neg (by omega), if_neg (by omega)] at this ⊢
          exact this
        · intro id'' cells'' hi
          exact hst.objs id'' cells'' (by simpa [bareAll] using hi)
      · exact hv.elim
    · exact hv.elim
  · exact hv.elim

theorem vAppend_sound {xs : Array Operand} {ts : Array TypeId} (ho : o.op = .call ⟨.builtin .append, xs, ts⟩) (h : St X.n g w e S a.tmps) (hv : vAppend C X xs.toList ts o.dst K e S) (hR : Goes X g w a K R) : o.wp C.P a w R Q := by
  unfold vAppend at hv
  have run : ∀ {x y : Operand} {rv : Value} {w' : World}, xs.toList = [x, y] → (Builtin.append_ ts o.type #[a.eval x, a.eval y]).run C.P w = .ok rv w' → (execOp a.eval o).run C.P w = .ok (.value rv) w' := by
    intro x y rv w' hxs hrun
    have hx : xs = #[x, y] := by
      apply Array.ext'
      simpa using hxs
    subst hx
    simp [execOp, ho, resolve, invoke, builtin, hrun]
  split at hv
  · rename_i d s x hd hxs
    split at hv
    · have hxs' : xs = #[.tmp s, x] := by
        apply Array.ext'
        simpa using hxs
      exact vAppArr_sound (by rw [ho, hxs']) hd h hv hR
    split at hv
    · rename_i sz rows more hp
      split at hv
      · rename_i hc
        obtain ⟨t, tx, el, te, rfl, hu, hte, hsz, h0, hes, hb, hl, news, hn⟩ := vw_src h hp (h.ev x)
        obtain ⟨rv, w', g', hrun, fr, hst⟩ := append_run h (ty := o.type) (rs := a.eval (.tmp s)) hu hte hsz h0 hb hl hn hc.1 (some s) ⟨hc.2, hes, rfl⟩
        unfold Oper.wp
        rw [run hxs hrun, Oper.upon_value, hd]
        exact hR _ _ _ _ _ hv (by rw [put_tmps]; exact hst) (put_defers _ _ _) fr
      · exact hv.elim
    · exact hv.elim
  · rename_i d x hd hxs
    split at hv
    · rename_i sz rows more hp
      split at hv
      · rename_i hdn
        obtain ⟨t, tx, el, te, rfl, hu, hte, hsz, h0, hes, hb, hl, news, hn⟩ := vw_src h hp (h.ev x)
        have hrows : rows = [] := by
          simp only [List.getElem?_toArray, List.getElem?_cons_zero, Option.elim_some] at hes
          unfold nilOf at hes
          repeat' split at hes
          all_goals first | (injection hes with _ _ hr; exact hr.symm) | cases hes
        subst hrows
        obtain ⟨rv, w', g', hrun, fr, hst⟩ := append_run h (ty := o.type) (rs := .slice none 0 0) hu hte hsz h0 hb hl hn hdn none ⟨rfl, rfl⟩
        unfold Oper.wp
        rw [run hxs hrun, Oper.upon_value, hd]
        exact hR _ _ _ _ _ hv (by rw [put_tmps]; exact hst) (put_defers _ _ _) fr
      · exact hv.elim
    · exact hv.elim
  · exact hv.elim
end
end Go.VL
