/- VL, part 13: append as an operation; calls. -/
import Derived.Test.YtjdfajibflodbaaVL12
set_option linter.unusedVariables false
set_option linter.unusedSimpArgs false
namespace Go.VL
open Go

section
variable {C : Ctx} {X : Fx} {o : Oper} {g : Gh} {w : World} {a : Act} {e : Env} {S : Store} {K : Env → Store → Prop} {R : Act → World → Prop} {Q : Exit → Act → World → Prop}

theorem pappend_ok {ts : Array TypeId} {s x : PV} {rx : Value} {sz : Nat} {rows more : List (List PV)} (hp : pappend C ts.toList s x = some (sz, rows, more)) (hx : Rel g w x rx) :
    ∃ t tx el te, ts = #[t, tx] ∧ C.P.underlying t = some (.slice el) ∧ C.T el = some te ∧ te.size = sz ∧ 0 < sz ∧ s = .sl .tail sz rows ∧ (rows.length + more.length) * te.bytes ≤ 140737488355328 ∧ rows.length + more.length ≤ 140737488355328 ∧ ∃ news, SrcOf C g w sz tx rx more news := by
  unfold pappend at hp
  split at hp
  · rename_i t tx hts
    have hts : ts = #[t, tx] := by
      apply Array.ext'
      simpa using hts
    split at hp
    · rename_i el _ _ _ hT
      have hu := und_slice (C := C) hT rfl
      split at hp
      · rename_i te hte
        split at hp
        · rename_i sz1 rows1
          unfold pappendTo at hp
          split at hp
          · rename_i ti hTx
            split at hp
            · rename_i ex f2 sz2 more2 hk
              have hux := und_slice (C := C) hTx hk
              split at hp
              · rename_i hc
                injection hp with hp
                injection hp with h1 h2
                injection h2 with h2 h3
                subst h1; subst h2; subst h3
                obtain ⟨c1, c2, c3, c4, c5⟩ := hc
                subst c2
                obtain ⟨news, hn⟩ := src_of_sl (C := C) c3 hux hx
                exact ⟨t, tx, el, te, hts, hu, hte, c1, c3, rfl, c4, c5, news, hn⟩
              · cases hp
            · rename_i b hk
              have hux := und_str (C := C) hTx hk
              split at hp
              · rename_i hc
                injection hp with hp
                injection hp with h1 h2
                injection h2 with h2 h3
                subst h1; subst h2; subst h3
                obtain ⟨c1, c2, c4, c5⟩ := hc
                subst c2
                have := rel_str hx
                subst this
                have hlen : (b.data.toList.map fun c => ([.int .u8 (c.toNat : Int)] : List PV)).length = b.size := by simp
                exact ⟨t, tx, el, te, hts, hu, hte, c1, Nat.one_pos, rfl, by rw [hlen]; exact c4, by rw [hlen]; exact c5, _, src_of_str hux⟩
              · cases hp
            · cases hp
          · cases hp
        · cases hp
      · cases hp
    · cases hp
  · cases hp

theorem news_one {sz : Nat} {tx : TypeId} {x : Value} {more : List (List PV)} {news : List Value} (h : SrcOf C g w sz tx x more news) :
    ∀ (j : Nat) (c : List PV) (k : Nat) v, more[j]? = some c → c[k]? = some v → ∃ u, news[j * sz + k]? = some u ∧ u.oneCell' = true ∧ Rel g w v u := by
  intro j c k v hj hk
  obtain ⟨u, h1, h2⟩ := h.rel j c k v hj hk
  exact ⟨u, h1, h.src.one u (List.mem_of_getElem? h1), h2⟩

def srcEnv (e : Env) : Option Nat → Env
  | none => e
  | some s => e.put s (e s).bare

/-- append, whatever the first slice is: a row that grows, or one that does not. -/
theorem append_run {n : Nat} {tmps : Array Value} (h : St n g w e S tmps) {t tx ty el : TypeId} {te : TI} {sz : Nat} {rows more : List (List PV)} {rx rs : Value} {news : List Value} (hu : C.P.underlying t = some (.slice el)) (hte : C.T el = some te) (hsz : te.size = sz) (h0 : 0 < sz)
    (hb : (rows.length + more.length) * te.bytes ≤ 140737488355328) (hl : rows.length + more.length ≤ 140737488355328) (hn : SrcOf C g w sz tx rx more news) {d : Nat} (hd : d < n) (src : Option Nat)
    (hs : match src with | none => rs = .slice none 0 0 ∧ rows = [] | some s => s < n ∧ e s = .sl .tail sz rows ∧ tmps.getD s Go.undef = rs) :
    ∃ rv w' g', (Builtin.append_ #[t, tx] ty #[rs, rx]).run C.P w = .ok rv w' ∧ Fr g g' w w' ∧ St n g' w' ((srcEnv e src).put d (.sl .tail sz (rows ++ more))) S (tmps.setIfInBounds d rv) := by
  obtain ⟨i, z, hi, hisz, hib, hz, hzs, _⟩ := (C.hT _ _ hte).info
  have hsrc := hn.src
  rw [← hsz, ← hisz] at hsrc
  have hln := hn.src.newsLen
  have close : ∀ {g' w' rv}, Quiet g g' w w' → Top g' w' d (.sl .tail sz (rows ++ more)) rv → St n g' w' ((srcEnv e src).put d (.sl .tail sz (rows ++ more))) S (tmps.setIfInBounds d rv) := by
    intro g' w' rv q ht
    cases src with
    | none => exact (h.quiet q).put hd ht
    | some s => exact ((h.quiet q).bareSlot s).put hd ht
  have nilCase : rs = .slice none 0 0 → rows = [] → ∃ rv w' g', (Builtin.append_ #[t, tx] ty #[rs, rx]).run C.P w = .ok rv w' ∧ Fr g g' w w' ∧ St n g' w' ((srcEnv e src).put d (.sl .tail sz (rows ++ more))) S (tmps.setIfInBounds d rv) := by
    intro hrs hrows
    subst hrs; subst hrows
    by_cases hm : more.length = 0
    · have hme : more = [] := List.eq_nil_of_length_eq_zero hm
      subst hme
      have hnews : news = [] := List.eq_nil_of_length_eq_zero (by rw [hln]; simp)
      subst hnews
      have hl0 : ∀ w', (Builtin.lenOf rx).run C.P w' = .ok 0 w' := hsrc.len
      have hc0 : (Builtin.firstCells i.size 0 rx).run C.P w = .ok #[] w := hsrc.cells
      have hrun : (Builtin.append_ #[t, tx] ty #[.slice none 0 0, rx]).run C.P w = .ok (.slice none 0 0) w := by
        rcases hsrc.kind with ⟨e', hk⟩ | hk <;> simp [Builtin.append_, run_underlying hu, run_underlying hk, sizeOf, typeInfo, hi, hl0, hc0]
      have ht : Top g w d (.sl .tail sz ([] ++ [])) (.slice none 0 0) := ⟨.slnil _ _, by simp [Tail]⟩
      exact ⟨_, w, g, hrun, Fr.refl g w, close (Quiet.refl h.new) ht⟩
    · simp only [List.length_nil, Nat.zero_add] at hb hl
      have hfit : Builtin.nextslicecap (0 + more.length) 0 * i.bytes ≤ 281474976710656 := growslice_fits (by omega) (by rw [hib, Nat.zero_add]; exact hb)
      have hrun := run_append_grow_src (P := C.P) w t tx ty el i z hu hi hz none 0 0 [] (run_firstCells_none w.drew i.size 0 0 0) rx more.length news hsrc (by omega) (by omega) hfit
      obtain ⟨g', q, ht⟩ := append_new (d := d) h.new (el := el) (sz := sz) (rows := []) (more := more) (olds := []) (news := news) (zs := Builtin.zeroCells z.cells (grownCap w (0 + more.length) 0 el - (0 + more.length))) (cap := grownCap w (0 + more.length) 0 el) (by simp) hln (by simp) hn.len (by simp) (news_one hn) (grownCap_ge w _ _ _) (by
        rw [size_zeroCells, hzs, hsz]
        rfl)
      exact ⟨_, _, g', hrun, q.toFr, close q ht⟩
  cases src with
  | none => exact nilCase hs.1 hs.2
  | some s =>
    obtain ⟨hsn, hes, hrs⟩ := hs
    have htop := h.slots s hsn
    rw [hes, hrs] at htop
    rcases sl_parts htop.rel with ⟨h1, h2⟩ | ⟨b, o', sp, cap, h1, hcap, hsp⟩
    · exact nilCase h1 h2
    · subst h1
      by_cases hroom : rows.length + more.length ≤ cap
      · by_cases hz0 : cap = 0
        · subst hz0
          have hr0 : rows = [] := List.eq_nil_of_length_eq_zero (by omega)
          subst hr0
          have hm0 : more = [] := List.eq_nil_of_length_eq_zero (by omega)
          subst hm0
          have hnews : news = [] := List.eq_nil_of_length_eq_zero (by rw [hln]; simp)
          subst hnews
          have hrun : (Builtin.append_ #[t, tx] ty #[.slice (some ⟨b, o', sp⟩) 0 0, rx]).run C.P w = .ok (.slice (some ⟨b, o', sp⟩) 0 0) w := by
            have hl0 : ∀ w', (Builtin.lenOf rx).run C.P w' = .ok 0 w' := hsrc.len
            have hc0 : (Builtin.firstCells i.size 0 rx).run C.P w = .ok #[] w := hsrc.cells
            have hst : ∀ a : Addr, (storeCells a [] 0).run C.P w = .ok () w := by
              intro a
              unfold storeCells
              rfl
            rcases hsrc.kind with ⟨e', hk⟩ | hk <;> simp [Builtin.append_, run_underlying hu, run_underlying hk, sizeOf, typeInfo, hi, hl0, hc0, hst]
          refine ⟨_, w, g, hrun, Fr.refl g w, close (Quiet.refl h.new) ?_⟩
          exact ⟨htop.rel, .inl (by simp), fun k k1 k2 => by simp at k2⟩
        have hsp : sp = none := by
          rcases htop.tail.1 with e1 | e1
          · rcases Nat.mul_eq_zero.1 e1 with e1 | e1
            · exact absurd e1 hz0
            · omega
          · exact e1
        subst hsp
        obtain ⟨a1, a2, g', fr, hst⟩ := append_room h (more := more) hsn hd h0 hes hrs hroom hln hn.len (news_one hn)
        have hrun := run_append_room_src (P := C.P) w t tx ty el i hu hi b o' rows.length cap rx more.length news hsrc hroom (by rw [hisz, hsz]; exact a1) (by rw [hisz, hsz]; exact a2)
        rw [hisz, hsz] at hrun
        exact ⟨_, _, g', hrun, fr, hst⟩
      · obtain ⟨olds, q1, q2, q3, q4⟩ := sl_cells h0 htop.rel
        have hfit : Builtin.nextslicecap (rows.length + more.length) cap * i.bytes ≤ 281474976710656 := growslice_fits (by omega) (by rw [hib]; exact hb)
        have hold : (Builtin.firstCells i.size rows.length (.slice (some ⟨b, o', sp⟩) rows.length cap)).run C.P w.drew = .ok olds.toArray w.drew := run_firstCells_some w.drew i.size rows.length ⟨b, o', sp⟩ rows.length cap olds (by rw [q1, hisz, hsz]) (fun j u hj => by rw [World.cell?_drew]; exact (q2 j u hj).1)
        have hrun := run_append_grow_src (P := C.P) w t tx ty el i z hu hi hz (some ⟨b, o', sp⟩) rows.length cap olds hold rx more.length news hsrc (by omega) (by omega) hfit
        obtain ⟨g', q, ht⟩ := append_new (d := d) h.new (el := el) (sz := sz) (rows := rows) (more := more) (olds := olds) (news := news) (zs := Builtin.zeroCells z.cells (grownCap w (rows.length + more.length) cap el - (rows.length + more.length))) (cap := grownCap w (rows.length + more.length) cap el) q1 hln q3 hn.len (fun j c k v hj hk => by
          obtain ⟨u, r1, r2⟩ := q4 j c k v hj hk
          exact ⟨u, r1, (q2 _ _ r1).2, r2⟩) (news_one hn) (grownCap_ge w _ _ _) (by rw [size_zeroCells, hzs, hsz])
        exact ⟨_, _, g', hrun, q.toFr, close q ht⟩

theorem vAppend_sound {xs : Array Operand} {ts : Array TypeId} (ho : o.op = .call ⟨.builtin .append, xs, ts⟩) (h : St X.n g w e S a.tmps) (hv : vAppend C X xs.toList ts o.dst K e S) (hR : Goes X g w a K R) : o.wp C.P a w R Q := by
  unfold vAppend at hv
  have run : ∀ {x y : Operand} {rv : Value} {w' : World}, xs.toList = [x, y] → (Builtin.append_ ts o.type #[a.eval x, a.eval y]).run C.P w = .ok rv w' → (execOp a.eval o).run C.P w = .ok (.value rv) w' := by
    intro x y rv w' hxs hrun
    have hx : xs = #[x, y] := by
      apply Array.ext'
      simpa using hxs
    subst hx
    simp [execOp, ho, resolve, invoke, builtin, hrun]
  split at hv
  · rename_i d s x hd hxs
    split at hv
    · rename_i sz rows more hp
      split at hv
      · rename_i hc
        obtain ⟨t, tx, el, te, rfl, hu, hte, hsz, h0, hes, hb, hl, news, hn⟩ := pappend_ok hp (h.ev x)
        obtain ⟨rv, w', g', hrun, fr, hst⟩ := append_run h (ty := o.type) (rs := a.eval (.tmp s)) hu hte hsz h0 hb hl hn hc.1 (some s) ⟨hc.2, hes, rfl⟩
        unfold Oper.wp
        rw [run hxs hrun, Oper.upon_value, hd]
        exact hR _ _ _ _ _ hv (by rw [put_tmps]; exact hst) (put_defers _ _ _) fr
      · exact hv.elim
    · exact hv.elim
  · rename_i d x hd hxs
    split at hv
    · rename_i sz rows more hp
      split at hv
      · rename_i hdn
        obtain ⟨t, tx, el, te, rfl, hu, hte, hsz, h0, hes, hb, hl, news, hn⟩ := pappend_ok hp (h.ev x)
        have hrows : rows = [] := by
          simp only [List.getElem?_toArray, List.getElem?_cons_zero, Option.elim_some] at hes
          unfold nilOf at hes
          repeat' split at hes
          all_goals first | (injection hes with _ _ hr; exact hr.symm) | cases hes
        subst hrows
        obtain ⟨rv, w', g', hrun, fr, hst⟩ := append_run h (ty := o.type) (rs := .slice none 0 0) hu hte hsz h0 hb hl hn hdn none ⟨rfl, rfl⟩
        unfold Oper.wp
        rw [run hxs hrun, Oper.upon_value, hd]
        exact hR _ _ _ _ _ hv (by rw [put_tmps]; exact hst) (put_defers _ _ _) fr
      · exact hv.elim
    · exact hv.elim
  · exact hv.elim
end
end Go.VL
