/- VL, part 8: slices, len; pop as a whole. -/
import Derived.Test.YtmedhhjbknnfkaaVL7
set_option linter.unusedVariables false
set_option linter.unusedSimpArgs false
namespace Go.VL
open Go

section
variable {C : Ctx} {o : Oper} {g : Gh} {w : World} {a : Act} {e : Env} {n : Nat} {S : Store} {v : PV}

theorem bounds_run (isSlice : Bool) {len cap : Nat} {lo hi : Option PV} {low high : Option Value} {l h : Int} (hl : bnd lo 0 = some l) (hh : bnd hi len = some h)
    (rl : ∀ p q, lo = some p → low = some q → Rel g w p q) (rh : ∀ p q, hi = some p → high = some q → Rel g w p q) (sl : lo.isSome = low.isSome) (sh : hi.isSome = high.isSome) (h0 : 0 ≤ l) (h1 : l ≤ h) (h2 : h ≤ len) (h3 : len ≤ cap) :
    (Instr.sliceBounds isSlice len cap low high none).run C.P w = .ok (l.toNat, h.toNat, cap) w := by
  rcases bnd_run hl rl sl with ⟨rfl, rfl, rfl⟩ | ⟨k1, rfl⟩ <;> rcases bnd_run hh rh sh with ⟨rfl, rfl, rfl⟩ | ⟨k2, rfl⟩
  · simp [Instr.sliceBounds]
  · have b2 := sliceBound_ok (w := w) (P := C.P) (k := k2) (l := h) (y := cap) (code := if isSlice then .sliceAcap else .sliceAlen) ⟨by omega, by omega⟩
    simp only [Instr.sliceBounds, Sem.run_bind, Sem.run_pure, Result.andThen_ok, b2]
    rfl
  · have b1 := sliceBound_ok (w := w) (P := C.P) (k := k1) (l := l) (y := len) (code := .sliceB) ⟨h0, by omega⟩
    simp only [Instr.sliceBounds, Sem.run_bind, Sem.run_pure, Result.andThen_ok, Option.isSome_none, Bool.false_eq_true, if_false, b1]
    simp
  · have b2 := sliceBound_ok (w := w) (P := C.P) (k := k2) (l := h) (y := cap) (code := if isSlice then .sliceAcap else .sliceAlen) ⟨by omega, by omega⟩
    have b1 := sliceBound_ok (w := w) (P := C.P) (k := k1) (l := l) (y := h.toNat) (code := .sliceB) ⟨h0, by omega⟩
    simp only [Instr.sliceBounds, Sem.run_bind, Sem.run_pure, Result.andThen_ok, b2, Option.isSome_none, Bool.false_eq_true, if_false, b1]

theorem bounds3_run {len cap : Nat} {lo hi : Option PV} {low high : Option Value} {l h m : Int} {km : IntKind} (hl : bnd lo 0 = some l) (hh : bnd hi len = some h) (hs : hi.isSome = true)
    (rl : ∀ p q, lo = some p → low = some q → Rel g w p q) (rh : ∀ p q, hi = some p → high = some q → Rel g w p q) (sl : lo.isSome = low.isSome) (sh : hi.isSome = high.isSome) (h0 : 0 ≤ l) (h1 : l ≤ h) (h2 : h ≤ len) (h3 : len ≤ cap) (hm : m = h) :
    (Instr.sliceBounds true len cap low high (some (.int km m))).run C.P w = .ok (l.toNat, h.toNat, m.toNat) w := by
  subst hm
  have b3 := sliceBound_ok (w := w) (P := C.P) (k := km) (l := m) (y := cap) (code := .slice3Acap) ⟨by omega, by omega⟩
  rcases bnd_run hh rh sh with ⟨rfl, rfl, rfl⟩ | ⟨k2, rfl⟩
  · simp at hs
  · have b2 := sliceBound_ok (w := w) (P := C.P) (k := k2) (l := m) (y := m.toNat) (code := .slice3B) ⟨by omega, by omega⟩
    rcases bnd_run hl rl sl with ⟨rfl, rfl, rfl⟩ | ⟨k1, rfl⟩
    · simp only [Instr.sliceBounds, Sem.run_bind, Sem.run_pure, Result.andThen_ok, if_true, b3, b2]
      rfl
    · have b1 := sliceBound_ok (w := w) (P := C.P) (k := k1) (l := l) (y := m.toNat) (code := .slice3C) ⟨h0, by omega⟩
      simp only [Instr.sliceBounds, Sem.run_bind, Sem.run_pure, Result.andThen_ok, if_true, b3, b2, Option.isSome_some, b1]

/-- A stretch of a slice. -/
theorem sl_stretch {f f' : Fl} {sz : Nat} {rows : List (List PV)} {b o' cap : Nat} {sp : Option Nat} (h : Rel g w (.sl f sz rows) (.slice (some ⟨b, o', sp⟩) rows.length cap)) {l hh m : Nat} (h1 : l ≤ hh) (h2 : hh ≤ rows.length) (h3 : hh ≤ m) (h4 : m ≤ cap) :
    Rel g w (.sl f' sz ((rows.drop l).take (hh - l))) (.slice (if m = l then some ⟨b, o', sp⟩ else some (Addr.add ⟨b, o', sp⟩ (l * sz))) (hh - l) (m - l)) := by
  have hlen : ((rows.drop l).take (hh - l)).length = hh - l := by simp; omega
  by_cases e : m = l
  · rw [if_pos e]
    have hz : hh - l = 0 := by omega
    have hr : (rows.drop l).take (hh - l) = [] := by rw [hz]; rfl
    rw [hr, hz]
    have := @Rel.sl g w f' sz [] b o' (m - l) sp (fun _ _ => Go.undef) (by simp) (by simp) (by simp) (by simp) (.inl rfl)
    simpa using this
  · rw [if_neg e]
    cases h with
    | sl fv hc hl h5 h6 hs =>
      have hadd : Addr.add ⟨b, o', sp⟩ (l * sz) = ⟨b, o' + l * sz, if l * sz = 0 then sp else none⟩ := by
        unfold Addr.add
        split <;> simp_all
      rw [hadd]
      have key : ∀ (j : Nat) (c : List PV), ((rows.drop l).take (hh - l))[j]? = some c → rows[l + j]? = some c := by
        intro j c hj
        rw [List.getElem?_take] at hj
        split at hj
        · rwa [List.getElem?_drop] at hj
        · cases hj
      have := @Rel.sl g w f' sz ((rows.drop l).take (hh - l)) b (o' + l * sz) (m - l) (if l * sz = 0 then sp else none) (fun j k => fv (l + j) k) (by omega) (fun j c hj => hl _ _ (key j c hj)) (fun j c k v hj hk => by
        have := h5 _ _ k v (key j c hj) hk
        rw [Nat.add_mul, Nat.add_assoc, ← Nat.add_assoc o'] at this
        exact this) (fun j c k v hj hk => h6 _ _ k v (key j c hj) hk) (hs.elim (fun h => .inl (by rw [h]; simp)) (fun h => .inr (by rw [h]; split <;> rfl)))
      rwa [hlen] at this

theorem optMap_rel (h : St n g w e S a.tmps) (x : Option Operand) : ∀ p q, x.map (ev · e) = some p → x.map a.eval = some q → Rel g w p q := by
  intro p q h1 h2
  cases x with
  | none => cases h1
  | some x =>
    injection h1 with h1
    injection h2 with h2
    subst h1; subst h2
    exact h.ev x

theorem pop_slice {t : TypeId} {x : Operand} {lo hi mx : Option Operand} (ho : o.op = .slice t x lo hi mx) (h : St n g w e S a.tmps) (hp : pop C o e = some v) : Doing C o g w a v := by
  unfold pop at hp
  rw [ho] at hp
  dsimp only at hp
  have hx := h.ev x
  have rl := optMap_rel h lo
  have rh := optMap_rel h hi
  have rm := optMap_rel h mx
  have sl : (lo.map (ev · e)).isSome = (lo.map a.eval).isSome := by cases lo <;> rfl
  have sh : (hi.map (ev · e)).isSome = (hi.map a.eval).isSome := by cases hi <;> rfl
  split at hp
  · rename_i s hT hs
    have hu := und_str (C := C) hT rfl
    rw [hs] at hx
    have hx := rel_str hx
    simp only [pslice] at hp
    split at hp
    · rename_i l hh h1 h2 h3
      split at hp
      · rename_i hc
        injection hp with hp
        subst hp
        have hmx : mx = none := by cases mx with | none => rfl | some y => cases h3
        have hb := bounds_run (C := C) (w := w) (g := g) false (len := s.size) (cap := s.size) h1 h2 rl rh sl sh hc.1 hc.2.1 hc.2.2 (Nat.le_refl _)
        refine Doing.bare h _ ?_ (.str _) rfl
        subst hmx
        simp only [execOp, ho, hx, Instr.sliceAt, Instr.slice, Option.map_none, Sem.run_bind, run_underlying hu, Result.andThen_ok, Option.isSome_none, Bool.false_eq_true, if_false, hb, Sem.run_pure]
      · cases hp
    · cases hp
  · rename_i el _ _ _ f sz rows hT hs
    have hu := und_slice (C := C) hT rfl
    rw [hs] at hx
    split at hp
    · rename_i te hte
      split at hp
      · rename_i hsz
        subst hsz
        simp only [pslice] at hp
        split at hp
        · rename_i l hh h1 h2
          split at hp
          · rename_i hc
            have hx0 := hx
            rcases sl_parts hx with ⟨hv, hr⟩ | ⟨b, o', sp, cap, hv, hcap, hsp⟩
            · -- nil
              subst hr
              have hl0 : l = 0 := by have := hc.2.2; simp at this; omega
              have hh0 : hh = 0 := by have := hc.2.2; simp at this; omega
              subst hl0; subst hh0
              split at hp
              · rename_i hm
                injection hp with hp
                subst hp
                have hmx : mx = none := by cases mx with | none => rfl | some y => cases hm
                subst hmx
                have hb := bounds_run (C := C) (w := w) (g := g) true (len := 0) (cap := 0) h1 h2 rl rh sl sh (by omega) (by omega) (by omega) (Nat.le_refl _)
                refine Doing.bare h (.slice none 0 0) ?_ (.slnil _ _) rfl
                simp only [execOp, ho, hv, Instr.sliceAt, Instr.slice, Option.map_none, Sem.run_bind, run_underlying hu, Result.andThen_ok, hb, C.sizeOf hte, Sem.run_pure]
                rfl
              · rename_i km m hm
                split at hp
                · rename_i hmh
                  injection hp with hp
                  subst hp
                  obtain ⟨y, hy, hym⟩ : ∃ y, mx = some y ∧ ev y e = .int km m := by
                    cases mx with
                    | none => cases hm
                    | some y => injection hm with hm; exact ⟨y, rfl, hm⟩
                  subst hy
                  have hmr := rel_int (hym ▸ h.ev y)
                  have hb := bounds3_run (C := C) (w := w) (g := g) (len := 0) (cap := 0) (km := km) h1 h2 hmh.2 rl rh sl sh (by omega) (by omega) (by omega) (Nat.le_refl _) hmh.1
                  refine Doing.still h (.slice none 0 0) ?_ fun d => ⟨.slnil _ _, by simp [Tail]⟩
                  have hmz : m = 0 := hmh.1
                  subst hmz
                  simp only [execOp, ho, hv, hmr, Instr.sliceAt, Instr.slice, Option.map_some, Sem.run_bind, run_underlying hu, Result.andThen_ok, hb, C.sizeOf hte, Sem.run_pure]
                  rfl
                · cases hp
              · cases hp
            · split at hp
              · rename_i hm
                injection hp with hp
                subst hp
                have hmx : mx = none := by cases mx with | none => rfl | some y => cases hm
                subst hmx
                have hb := bounds_run (C := C) (w := w) (g := g) true (len := rows.length) (cap := cap) h1 h2 rl rh sl sh hc.1 hc.2.1 hc.2.2 hcap
                rw [hv] at hx
                have hst := sl_stretch (f' := .no) hx (l := l.toNat) (hh := hh.toNat) (m := cap) (by omega) (by omega) (by omega) (Nat.le_refl _)
                refine Doing.bare h _ ?_ hst rfl
                simp only [execOp, ho, hv, Instr.sliceAt, Instr.slice, Option.map_none, Sem.run_bind, run_underlying hu, Result.andThen_ok, hb, C.sizeOf hte, Sem.run_pure, Option.map_some]
              · rename_i km m hm
                split at hp
                · rename_i hmh
                  injection hp with hp
                  subst hp
                  obtain ⟨y, hy, hym⟩ : ∃ y, mx = some y ∧ ev y e = .int km m := by
                    cases mx with
                    | none => cases hm
                    | some y => injection hm with hm; exact ⟨y, rfl, hm⟩
                  subst hy
                  have hmr := rel_int (hym ▸ h.ev y)
                  have hb := bounds3_run (C := C) (w := w) (g := g) (len := rows.length) (cap := cap) (km := km) h1 h2 hmh.2 rl rh sl sh hc.1 hc.2.1 hc.2.2 hcap hmh.1
                  have hmz : m = hh := hmh.1
                  subst hmz
                  rw [hv] at hx
                  have hst := sl_stretch (f' := .tail) hx (l := l.toNat) (hh := m.toNat) (m := m.toNat) (by omega) (by omega) (Nat.le_refl _) (by omega)
                  refine Doing.still h _ ?_ fun d => ⟨hst, ?_⟩
                  · simp only [execOp, ho, hv, hmr, Instr.sliceAt, Instr.slice, Option.map_some, Sem.run_bind, run_underlying hu, Result.andThen_ok, hb, C.sizeOf hte, Sem.run_pure]
                  · have hlen : ((rows.drop l.toNat).take (m.toNat - l.toNat)).length = m.toNat - l.toNat := by simp; omega
                    by_cases e0 : m.toNat = l.toNat
                    · rw [if_pos e0]
                      refine ⟨.inl (by rw [e0]; simp), fun k k1 k2 => ?_⟩
                      rw [hlen] at k1
                      omega
                    · rw [if_neg e0]
                      refine ⟨?_, fun k k1 k2 => ?_⟩
                      · by_cases ez : te.size = 0
                        · left; rw [ez]; simp
                        · right
                          rcases hsp with e1 | e1
                          · have : rows.length = 0 := by rw [e1]; rfl
                            have := hc.2.2
                            omega
                          · unfold Addr.add
                            split <;> simp_all
                      rw [hlen] at k1
                      omega
                · cases hp
              · cases hp
          · cases hp
        · cases hp
      · cases hp
    · cases hp
  · rename_i el _ _ _ f id off len sz hT hs
    have hu := und_slice (C := C) hT rfl
    rw [hs] at hx
    split at hp
    · rename_i te hte
      split at hp
      · rename_i hsz
        subst hsz
        unfold parr at hp
        split at hp
        · rename_i l hh h1 h2
          split at hp
          · rename_i hc
            obtain ⟨ad, cap, hv, hcap, hbase⟩ : ∃ ad cap, a.eval x = .slice ad len cap ∧ ((ad = none → cap = 0) ∧ len ≤ cap) ∧ (len = 0 ∨ (id < g.nxt ∧ ad = some ⟨(g.loc id).1, (g.loc id).2 + off, none⟩)) := by
              generalize a.eval x = q at hx
              cases hx with
              | arr0 f id off sz ad cap h => exact ⟨ad, cap, rfl, ⟨h, Nat.zero_le _⟩, .inl rfl⟩
              | arr f h1 h2 => exact ⟨_, _, rfl, ⟨by simp, h2⟩, .inr ⟨h1, rfl⟩⟩
            have hlc : len ≤ cap := hcap.2
            split at hp
            · rename_i hm
              injection hp with hp
              subst hp
              have hmx : mx = none := by cases mx with | none => rfl | some y => cases hm
              subst hmx
              have hb := bounds_run (C := C) (w := w) (g := g) true (len := len) (cap := cap) h1 h2 rl rh sl sh hc.1 hc.2.1 hc.2.2 hlc
              refine Doing.bare h (.slice (if cap = l.toNat then ad else ad.map (·.add (l.toNat * te.size))) (hh.toNat - l.toNat) (cap - l.toNat)) ?_ ?_ rfl
              · simp only [execOp, ho, hv, Instr.sliceAt, Instr.slice, Option.map_none, Sem.run_bind, run_underlying hu, Result.andThen_ok, hb, C.sizeOf hte, Sem.run_pure]
              · by_cases e0 : hh.toNat - l.toNat = 0
                · rw [e0]
                  refine .arr0 _ _ _ _ _ _ fun hn => ?_
                  have hadn : ad = none := by
                    split at hn
                    · exact hn
                    · cases ad with | none => rfl | some _ => cases hn
                  have := hcap.1 hadn
                  omega
                · rw [if_neg (by omega)]
                  rcases hbase with h0 | ⟨hid, rfl⟩
                  · omega
                  · rw [Option.map_some, Addr.add_lit, Nat.add_assoc]
                    exact .arr .no hid (by omega)
            · rename_i km m hm
              split at hp
              · rename_i hmh
                injection hp with hp
                subst hp
                obtain ⟨y, hy, hym⟩ : ∃ y, mx = some y ∧ ev y e = .int km m := by
                  cases mx with
                  | none => cases hm
                  | some y => injection hm with hm; exact ⟨y, rfl, hm⟩
                subst hy
                have hmr := rel_int (hym ▸ h.ev y)
                have hb := bounds3_run (C := C) (w := w) (g := g) (len := len) (cap := cap) (km := km) h1 h2 hmh.2.2 rl rh sl sh hc.1 hc.2.1 hc.2.2 hlc hmh.1
                obtain ⟨e1, e2, _⟩ := hmh
                subst e1
                subst e2
                refine Doing.still h (.slice ad 0 0) ?_ fun d => ?_
                · simp only [execOp, ho, hv, hmr, Instr.sliceAt, Instr.slice, Option.map_some, Sem.run_bind, run_underlying hu, Result.andThen_ok, hb, C.sizeOf hte, Sem.run_pure, if_pos, Nat.sub_self]
                · cases ad with
                  | none => exact ⟨.slnil _ _, by simp [Tail]⟩
                  | some ad =>
                    refine ⟨?_, .inl (by simp), fun k k1 k2 => by simp at k2⟩
                    obtain ⟨b, o', sp⟩ := ad
                    have := @Rel.sl g w .tail te.size [] b o' 0 sp (fun _ _ => Go.undef) (by simp) (by simp) (by simp) (by simp) (.inl rfl)
                    simpa using this
              · cases hp
            · cases hp
          · cases hp
        · cases hp
      · cases hp
    · cases hp
  · cases hp

theorem pop_builtin {b : Builtin} {xs : Array Operand} {ts : Array TypeId} (ho : o.op = .call ⟨.builtin b, xs, ts⟩) (h : St n g w e S a.tmps) (hp : pop C o e = some v) : Doing C o g w a v := by
  unfold pop at hp
  rw [ho] at hp
  dsimp only at hp
  have hl : ∀ p q, xs.toList.map (ev · e) = [p, q] → ∃ x y, xs = #[x, y] ∧ ev x e = p ∧ ev y e = q := by
    intro p q hx
    obtain ⟨l⟩ := xs
    match l, hx with
    | [x, y], hx => simp at hx; exact ⟨x, y, rfl, hx.1, hx.2⟩
  have hl1 : ∀ p, xs.toList.map (ev · e) = [p] → ∃ x, xs = #[x] ∧ ev x e = p := by
    intro p hx
    obtain ⟨l⟩ := xs
    match l, hx with
    | [x], hx => simp at hx; exact ⟨x, rfl, hx⟩
  unfold pcall at hp
  split at hp
  · rename_i f sz rows hx
    obtain ⟨x, rfl, hx1⟩ := hl1 _ hx
    split at hp
    · rename_i el _ _ _ hT
      injection hp with hp
      subst hp
      cases ht0 : ts[0]? with
      | none => rw [ht0] at hT; cases hT
      | some t0 =>
        rw [ht0] at hT
        have hu := und_slice (C := C) (t := t0) hT rfl
        have hr := h.ev x
        rw [hx1] at hr
        refine Doing.bare h (.int .i64 rows.length) ?_ (.int _ _) rfl
        rcases sl_parts hr with ⟨hv, hr⟩ | ⟨b, o', sp, cap, hv, hcap, hsp⟩
        · subst hr
          simp [execOp, ho, resolve, invoke, builtin, Builtin.len_, ht0, hv, run_underlying hu, goInt]
        · simp [execOp, ho, resolve, invoke, builtin, Builtin.len_, ht0, hv, run_underlying hu, goInt]
    · cases hp
  · rename_i f id off len sz hx
    obtain ⟨x, rfl, hx1⟩ := hl1 _ hx
    split at hp
    · rename_i el _ _ _ hT
      injection hp with hp
      subst hp
      cases ht0 : ts[0]? with
      | none => rw [ht0] at hT; cases hT
      | some t0 =>
        rw [ht0] at hT
        have hu := und_slice (C := C) (t := t0) hT rfl
        have hr := h.ev x
        rw [hx1] at hr
        refine Doing.bare h (.int .i64 len) ?_ (.int _ _) rfl
        obtain ⟨ad, cap, hv⟩ : ∃ ad cap, a.eval x = .slice ad len cap := by
          generalize a.eval x = q at hr
          cases hr with
          | arr0 f id off sz ad cap h => exact ⟨ad, cap, rfl⟩
          | arr f h1 h2 => exact ⟨_, _, rfl⟩
        simp [execOp, ho, resolve, invoke, builtin, Builtin.len_, ht0, hv, run_underlying hu, goInt]
    · cases hp
  · rename_i s hx
    obtain ⟨x, rfl, hx1⟩ := hl1 _ hx
    split at hp
    · rename_i _ _ _ hT
      injection hp with hp
      subst hp
      cases ht0 : ts[0]? with
      | none => rw [ht0] at hT; cases hT
      | some t0 =>
        rw [ht0] at hT
        have hu := und_str (C := C) (t := t0) hT rfl
        have hr := h.ev x
        rw [hx1] at hr
        have hr := rel_str hr
        refine Doing.bare h (.int .i64 s.size) ?_ (.int _ _) rfl
        simp [execOp, ho, resolve, invoke, builtin, Builtin.len_, ht0, hr, run_underlying hu, goInt]
    · cases hp
  · rename_i k p k2 q hx
    obtain ⟨x, y, rfl, h1, h2⟩ := hl _ _ hx
    injection hp with hp
    subst hp
    have hr := rel_int (h1 ▸ h.ev x)
    have hs := rel_int (h2 ▸ h.ev y)
    refine Doing.bare h _ ?_ (.int _ _) rfl
    simp [execOp, ho, resolve, invoke, builtin, Builtin.max_, Builtin.max2, hr, hs]
  · rename_i k p k2 q hx
    obtain ⟨x, y, rfl, h1, h2⟩ := hl _ _ hx
    injection hp with hp
    subst hp
    have hr := rel_int (h1 ▸ h.ev x)
    have hs := rel_int (h2 ▸ h.ev y)
    refine Doing.bare h _ ?_ (.int _ _) rfl
    simp [execOp, ho, resolve, invoke, builtin, Builtin.min_, Builtin.min2, hr, hs]
  · cases hp

theorem pop_sound (h : St n g w e S a.tmps) (hp : pop C o e = some v) : Doing C o g w a v := by
  have hp' := hp
  unfold pop at hp'
  split at hp'
  · rename_i x ho; exact pop_move (.inl ho) h hp
  · rename_i x ho; exact pop_move (.inr ho) h hp
  · rename_i ho; exact pop_pick ho h hp
  · rename_i ho; exact pop_nilCheck ho h hp
  · rename_i ho; exact pop_load ho h hp
  · rename_i ho; exact pop_fieldAddr ho h hp
  · rename_i ho; exact pop_indexAddr ho h hp
  · rename_i ho; exact pop_index ho h hp
  · rename_i ho; exact pop_field ho h hp
  · rename_i ho; exact pop_binOp ho h hp
  · rename_i ho; exact pop_unOp ho h hp
  · rename_i ho; exact pop_convert ho h hp
  · rename_i ho; exact pop_extract ho h hp
  · rename_i ho; exact pop_build ho h hp
  · rename_i ho; exact pop_buildSlice ho h hp
  · rename_i ho; exact pop_box ho h hp
  · rename_i ho; exact pop_slice ho h hp
  · rename_i ho; exact pop_makeFunc ho h hp
  · rename_i ho; exact pop_builtin ho h hp
  · cases hp'
end
end Go.VL
