/- VL, part 7: pop is sound, the other operations. -/
import Derived.Laws.BytesString
import Derived.Laws.IdiomStrings
import Derived.Test.YtmedhhjbknnfkaaVL6
set_option linter.unusedVariables false
set_option linter.unusedSimpArgs false
namespace Go.VL
open Go

section
variable {C : Ctx} {o : Oper} {g : Gh} {w : World} {a : Act} {e : Env} {n : Nat} {S : Store} {v : PV}

theorem pop_move {x : Operand} (ho : o.op = .move x ∨ o.op = .assign x) (h : St n g w e S a.tmps) (hp : pop C o e = some v) : Doing C o g w a v := by
  have hv : opd C o.type x e = v := by
    unfold pop at hp
    rcases ho with ho | ho <;> (rw [ho] at hp; exact Option.some.inj hp)
  subst hv
  refine Doing.still h (a.eval x) ?_ fun d => opd_top h _ _ d
  rcases ho with ho | ho <;> (simp only [execOp, ho]; rfl)

theorem pop_pick {c x y : Operand} (ho : o.op = .pick c x y) (h : St n g w e S a.tmps) (hp : pop C o e = some v) : Doing C o g w a v := by
  unfold pop at hp
  rw [ho] at hp
  dsimp only at hp
  split at hp
  · rename_i t ht
    injection hp with hp
    have hc := h.ev c
    rw [ht] at hc
    have hc := rel_bool hc
    refine Doing.still h (if t then a.eval x else a.eval y) ?_ fun d => ?_
    · simp only [execOp, ho, hc, asBool, Sem.run_bind, Sem.run_pure, Result.andThen_ok]
    · subst hp
      cases t
      · exact .ofBare (h.ev y)
      · exact .ofBare (h.ev x)
  · cases hp

theorem pop_nilCheck {x : Operand} (ho : o.op = .nilCheck x) (h : St n g w e S a.tmps) (hp : pop C o e = some v) : Doing C o g w a v := by
  unfold pop at hp
  rw [ho] at hp
  dsimp only at hp
  obtain ⟨b, o', hr, hk⟩ := ploc_rel hp (h.ev x)
  have := hk 0 (fun _ => rfl)
  refine Doing.bare h _ ?_ this (ploc_bare hp)
  simp only [execOp, ho, hr, Sem.run_pure, Nat.add_zero]

theorem pop_load {t : TypeId} {x : Operand} (ho : o.op = .load t x) (h : St n g w e S a.tmps) (hp : pop C o e = some v) : Doing C o g w a v := by
  unfold pop at hp
  rw [ho] at hp
  dsimp only at hp
  split at hp
  · rename_i ti cells off hT hx
    have hr := h.ev x
    rw [hx] at hr
    obtain ⟨ad, y, h1, h2, h3, h4⟩ := pload_ip hT hp hr
    refine Doing.bare h y ?_ h3 h4
    simp only [execOp, ho, h1, Instr.loadAt, Instr.sureAddr, Sem.run_bind, Sem.run_pure, Result.andThen_ok, h2]
  · rename_i ti cells hT hx
    have hr := h.ev x
    rw [hx] at hr
    obtain ⟨ad, y, h1, h2, h3, h4⟩ := pload_ip hT hp (np_ip hr)
    refine Doing.bare h y ?_ h3 h4
    simp only [execOp, ho, h1, Instr.loadAt, Instr.sureAddr, Sem.run_bind, Sem.run_pure, Result.andThen_ok, h2]
  · cases hp

theorem pop_fieldAddr {t : TypeId} {x : Operand} {f : Nat} (ho : o.op = .fieldAddr t x f) (h : St n g w e S a.tmps) (hp : pop C o e = some v) : Doing C o g w a v := by
  unfold pop at hp
  rw [ho] at hp
  dsimp only at hp
  split at hp
  · rename_i fs _ _ _ hT
    split at hp
    · rename_i off sz hpl
      split at hp
      · cases hp
      · rename_i hsz
        obtain ⟨b, o', hr, hk⟩ := ploc_rel hp (h.ev x)
        have hk := hk off (fun _ => rfl)
        unfold places at hpl
        cases hf : fs[f]? with
        | none => rw [hf] at hpl; cases hpl
        | some q =>
          obtain ⟨q1, q2, q3⟩ := q
          rw [hf] at hpl
          simp only [Option.map_some, Option.some.injEq, Prod.mk.injEq] at hpl
          obtain ⟨rfl, rfl⟩ := hpl
          obtain ⟨arr, fl, hu, ha, h1, h2, i, hi, h3⟩ := field_at (C := C) hT rfl hf
          refine Doing.bare h _ ?_ hk (ploc_bare hp)
          have hne : ¬ (i.size = 0) := by rw [h3]; exact hsz
          simp only [execOp, ho, hr, Instr.fieldAt, Instr.sureAddr, fieldPlace, Sem.run_bind, Sem.run_pure, Result.andThen_ok, run_underlying hu, ha, sizeOf, typeInfo, program, Sem.run, h2, hi, if_neg hne, h1, Addr.add_lit]
    · cases hp
  · cases hp

theorem pop_indexAddr {t : TypeId} {x i : Operand} (ho : o.op = .indexAddr t x i) (h : St n g w e S a.tmps) (hp : pop C o e = some v) : Doing C o g w a v := by
  unfold pop at hp
  rw [ho] at hp
  dsimp only at hp
  split at hp
  · rename_i el _ _ _ hT
    have hu := und_slice (C := C) hT rfl
    split at hp
    · rename_i te f sz rows k m hte hx hi
      split at hp
      · rename_i hsz
        split at hp
        · rename_i hin
          injection hp with hp
          subst hp
          have hrx := h.ev x
          rw [hx] at hrx
          have hri := h.ev i
          rw [hi] at hri
          have hri := rel_int hri
          rcases sl_parts hrx with ⟨_, hrows⟩ | ⟨b, o', sp, cap, hv, hcap, hsp⟩
          · subst hrows; simp at hin; omega
          · have hlt : m.toNat < rows.length := by omega
            have hrow : rows[m.toNat]? = some (rows.getD m.toNat []) := by rw [List.getD_eq_getElem?_getD, List.getElem?_eq_getElem hlt]; rfl
            have hsp : sp = none := by
              rcases hsp with e | e
              · rw [e] at hlt; simp at hlt
              · exact e
            subst hsp
            rw [hv] at hrx
            refine Doing.bare h (.pointer (some ⟨b, o' + m.toNat * te.size, none⟩)) ?_ ?_ rfl
            · simp only [execOp, ho, hri, hv, Instr.indexAt, asIntOf, Sem.run_bind, Sem.run_pure, Result.andThen_ok, run_underlying hu, if_pos hin, C.sizeOf hte, Addr.add_lit]
            · cases hrx with
              | sl fv hc hl h1 h2 =>
                rw [hsz]
                have := @Rel.ip g w (rows.getD m.toNat []) 0 b (o' + m.toNat * sz) (fun k => fv m.toNat k) (fun k v hk => by
                  rw [Nat.add_assoc]
                  exact h1 _ _ k v hrow hk) (fun k v hk => h2 _ _ k v hrow hk)
                simpa using this
        · cases hp
      · cases hp
    · rename_i te f id off len sz k m hte hx hi
      split at hp
      · rename_i hsz
        split at hp
        · rename_i hin
          injection hp with hp
          subst hp
          have hrx := h.ev x
          rw [hx] at hrx
          have hri := h.ev i
          rw [hi] at hri
          have hri := rel_int hri
          generalize hq : a.eval x = q at hrx
          cases hrx with
          | arr0 => omega
          | @arr _ _ _ _ _ cap hid hcap =>
            refine Doing.bare h (.pointer (some ⟨(g.loc id).1, (g.loc id).2 + off + m.toNat * te.size, none⟩)) ?_ ?_ rfl
            · simp only [execOp, ho, hri, hq, Instr.indexAt, asIntOf, Sem.run_bind, Sem.run_pure, Result.andThen_ok, run_underlying hu, if_pos hin, C.sizeOf hte, Addr.add_lit]
            · rw [hsz, Nat.add_assoc]
              exact .ref hid
        · cases hp
      · cases hp
    · cases hp
  · rename_i len el _ _ _ hT
    have hu := und_array (C := C) hT rfl
    split at hp
    · rename_i te k m hte hi
      split at hp
      · rename_i hin
        obtain ⟨b, o', hr, hk⟩ := ploc_rel hp (h.ev x)
        have hk := hk (m.toNat * te.size) (fun _ => rfl)
        have hri := h.ev i
        rw [hi] at hri
        have hri := rel_int hri
        refine Doing.bare h _ ?_ hk (ploc_bare hp)
        simp only [execOp, ho, hri, hr, Instr.indexAt, asIntOf, Instr.sureAddr, Sem.run_bind, Sem.run_pure, Result.andThen_ok, run_underlying hu, if_pos hin, C.sizeOf hte, Addr.add_lit]
      · cases hp
    · cases hp
  · cases hp

theorem pop_index {t : TypeId} {x i : Operand} (ho : o.op = .index t x i) (h : St n g w e S a.tmps) (hp : pop C o e = some v) : Doing C o g w a v := by
  unfold pop at hp
  rw [ho] at hp
  dsimp only at hp
  split at hp
  · rename_i s k m hT hx hi
    have hu := und_str (C := C) hT rfl
    split at hp
    · rename_i hin
      injection hp with hp
      subst hp
      have hrx := h.ev x
      rw [hx] at hrx
      have hrx := rel_str hrx
      have hri := h.ev i
      rw [hi] at hri
      have hri := rel_int hri
      refine Doing.bare h _ ?_ (.int _ _) rfl
      have hlt : m.toNat < s.size := by omega
      have hs : s[m.toNat]? = some s[m.toNat] := getElem?_pos s m.toNat hlt
      simp only [execOp, ho, hri, hrx, Instr.index, asIntOf, Sem.run_bind, Sem.run_pure, Result.andThen_ok, run_underlying hu, if_pos hin.1, hs]
      have : s[m.toNat] = s.data.getD m.toNat 0 := by
        show s.data[m.toNat] = _
        rw [Array.getD_eq_getD_getElem?, Array.getElem?_eq_getElem (by exact hlt)]
        rfl
      rw [this]
    · cases hp
  · rename_i len el _ _ _ cs k m hT hx hi
    have hu := und_array (C := C) hT rfl
    split at hp
    · rename_i hin
      split at hp
      · rename_i te hte
        have hrx := h.ev x
        rw [hx] at hrx
        obtain ⟨vs, hvs, hcr⟩ := agg_cr hrx
        have hri := h.ev i
        rw [hi] at hri
        have hri := rel_int hri
        obtain ⟨y, h1, h2, h3⟩ := ppart_run hte hcr hp
        refine Doing.bare h y ?_ h2 h3
        simp only [execOp, ho, hri, hvs, Instr.index, asIntOf, Sem.run_bind, Sem.run_pure, Result.andThen_ok, run_underlying hu, if_pos hin, C.sizeOf hte, h1]
      · cases hp
    · cases hp
  · cases hp

theorem pop_field {t : TypeId} {x : Operand} {f : Nat} (ho : o.op = .field t x f) (h : St n g w e S a.tmps) (hp : pop C o e = some v) : Doing C o g w a v := by
  unfold pop at hp
  rw [ho] at hp
  dsimp only at hp
  split at hp
  · rename_i fs _ _ _ cs hT hx
    split at hp
    · rename_i off ft _ hf
      split at hp
      · rename_i tf htf
        obtain ⟨arr, fl, hu, ha, h1, h2, i, hi, h3⟩ := field_at (C := C) hT rfl hf
        have hrx := h.ev x
        rw [hx] at hrx
        obtain ⟨vs, hvs, hcr⟩ := agg_cr hrx
        obtain ⟨y, r1, r2, r3⟩ := ppart_run htf hcr hp
        refine Doing.bare h y ?_ r2 r3
        simp only [execOp, ho, hvs, Instr.field, asAgg, Sem.run_bind, Sem.run_pure, Result.andThen_ok, run_underlying hu, ha, h1, h2, r1]
      · cases hp
    · cases hp
  · cases hp

omit C o g w a e n S v in
theorem equal_succ (t : TypeId) (x y : Value) : Op.equal t x y = Op.equalIn (9999 + 1) t x y := rfl

theorem equal_bool {t : TypeId} (hu : C.P.underlying t = some .bool) (p q : Bool) : (Op.equal t (.bool p) (.bool q)).run C.P w = .ok (p == q) w := by
  rw [equal_succ, Op.equalIn]
  simp only [Sem.run_bind, run_underlying hu, Result.andThen_ok, Sem.run_pure]

theorem equal_ptr {t : TypeId} {ti : TI} (hT : C.T t = some ti) (hk : ti.k = .ptr) {x y : PV} {b : Bool} (h : peqp x y = some b) {rx ry : Value} (hx : Rel g w x rx) (hy : Rel g w y ry) :
    (Op.equal t rx ry).run C.P w = .ok b w ∧ ∃ p, rx = .pointer p ∧ ∃ q, ry = .pointer q := by
  obtain ⟨el, hu⟩ := und_ptr hT hk
  unfold peqp at h
  split at h
  all_goals try cases h
  all_goals first
    | (have hx := rel_nilp hx; have hy := rel_nilp hy; subst hx; subst hy)
    | (have hx := rel_nilp hx; subst hx; cases hy)
    | (have hy := rel_nilp hy; subst hy; cases hx)
  all_goals refine ⟨?_, _, rfl, _, rfl⟩
  all_goals
    rw [equal_succ, Op.equalIn]
    simp only [Sem.run_bind, run_underlying hu, Result.andThen_ok, Sem.run_pure, Option.isNone_none, Option.isNone_some]

omit o a e n S v in
theorem peqc_run {t : TypeId} {ti : TI} (hT : C.T t = some ti) {x y : PV} {b : Bool} (hk : peqk ti.k x y = true) (h : peqc x y = some b) {rx ry : Value} (hx : Rel g w x rx) (hy : Rel g w y ry) (d : Nat) :
    (Op.equalIn (d + 1) t rx ry).run C.P w = .ok b w := by
  cases x <;> cases y <;> simp only [peqc, Option.some.injEq, reduceCtorEq] at h
  · have := rel_bool hx; have := rel_bool hy
    subst_vars
    cases hkk : ti.k <;> rw [hkk] at hk <;> simp only [peqk, Bool.false_eq_true] at hk
    exact run_equalIn_bool w d t _ _ (und_bool hT hkk)
  · have := rel_int hx; have := rel_int hy
    subst_vars
    cases hkk : ti.k <;> rw [hkk] at hk <;> simp only [peqk, Bool.false_eq_true, decide_eq_true_eq] at hk
    subst hk
    exact run_equalIn_int w d t _ _ _ _ (und_int hT hkk)
  · have := rel_str hx; have := rel_str hy
    subst_vars
    cases hkk : ti.k <;> rw [hkk] at hk <;> simp only [peqk, Bool.false_eq_true] at hk
    exact run_equalIn_string w d t _ _ (und_str hT hkk)

omit o a e n S v in
theorem peqk_agg {ti : TI} {x y : PV} (h : peqk ti.k x y = true) : ti.k.agg = false ∧ x.bare = x ∧ y.bare = y := by
  cases hk : ti.k <;> rw [hk] at h <;> cases x <;> cases y <;> first | exact ⟨rfl, rfl, rfl⟩ | simp [peqk] at h

omit o a e n S v in
theorem peqs_run {xs ys : List PV} {vs us : Array Value} (hx : CR g w xs vs) (hy : CR g w ys us) (d : Nat) : ∀ (fs : List Field) (tf : List (Nat × TypeId × Nat)) (b : Bool),
    fs.length = tf.length → (∀ (j : Nat) f, fs[j]? = some f → ∃ sz, tf[j]? = some (f.offset, f.type, sz)) → (∀ f ∈ fs, f.name ≠ "_") → peqs C tf xs ys = some b → (Op.eqFields (d + 1) vs us fs).run C.P w = .ok b w
  | [], tf, b, hl, _, _, h => by
    have : tf = [] := List.eq_nil_of_length_eq_zero (by simpa using hl.symm)
    subst this
    simp only [peqs, Option.some.injEq] at h
    subst h
    rfl
  | f :: fs, [], b, hl, _, _, h => by simp at hl
  | f :: fs, (off, ft, sz) :: tf, b, hl, hf, hn, h => by
    obtain ⟨sz', h0⟩ := hf 0 f rfl
    simp only [List.getElem?_cons_zero, Option.some.injEq, Prod.mk.injEq] at h0
    obtain ⟨rfl, rfl, rfl⟩ := h0
    simp only [peqs] at h
    unfold peqA at h
    split at h
    · rename_i ti x y r hT hxo hyo hr
      split at h
      · rename_i hk
        obtain ⟨hag, hbx, hby⟩ := peqk_agg hk
        cases hc : peqc x y with
        | none => rw [hc] at h; cases h
        | some c =>
          rw [hc] at h
          simp only [Option.map_some, Option.some.injEq] at h
          subst h
          obtain ⟨rx, p1, p2, _⟩ := ppart_run (v := x) hT hx (off := f.offset) (by unfold ppart pload; rw [hag]; simp [hxo, hbx])
          obtain ⟨ry, q1, q2, _⟩ := ppart_run (v := y) hT hy (off := f.offset) (by unfold ppart pload; rw [hag]; simp [hyo, hby])
          have he := peqc_run hT hk hc p2 q2 d
          have ih := peqs_run hx hy d fs tf r (by simpa using hl) (fun j f' hj => hf (j + 1) f' hj) (fun f' hf' => hn f' (List.mem_cons_of_mem _ hf')) hr
          unfold Op.eqFields
          rw [if_pos (hn f (List.mem_cons_self ..))]
          simp only [Sem.run_bind, p1, q1, he, Result.andThen_ok]
          cases c
          · rfl
          · simp only [Bool.not_true, Bool.false_eq_true, if_false, ih, Bool.true_and]
      · cases h
    · cases h

theorem peqS_run {t : TypeId} {ti : TI} {fs : List (Nat × TypeId × Nat)} (hT : C.T t = some ti) (hk : ti.k = .struct fs) {x y : PV} {b : Bool} (h : peqS C t fs x y = some b) {rx ry : Value} (hx : Rel g w x rx) (hy : Rel g w y ry) :
    ∃ vs us, rx = .agg vs ∧ ry = .agg us ∧ (∀ op p q, (eqGuard op t p q (.agg vs) (.agg us)).run C.P w = .ok () w) ∧ (Op.equalIn 10000 t (.agg vs) (.agg us)).run C.P w = .ok b w := by
  unfold peqS at h
  split at h
  · rename_i xs ys hE
    obtain ⟨vs, rfl, hvs⟩ := agg_cr hx
    obtain ⟨us, rfl, hus⟩ := agg_cr hy
    obtain ⟨e1, e2, e3⟩ := C.hE t hE
    obtain ⟨arr, hu, h2, h3⟩ := struct_fields hT hk
    have hfo : C.P.fieldsOf t = arr := by unfold Program.fieldsOf; rw [hu]
    have hl := mapM_len _ _ _ h2
    refine ⟨vs, us, rfl, rfl, fun op p q => run_eqGuard_agg w op t p q vs us e2, ?_⟩
    rw [show (10000 : Nat) = 9999 + 1 from rfl, run_equalIn_struct w 9999 t vs us (by rw [hfo]; exact hu) e1]
    refine peqs_run hvs hus 9998 _ _ b (by rw [hfo]; simpa using hl.symm) (fun j f hj => ?_) e3 h
    rw [hfo] at hj
    obtain ⟨i, hi, hf⟩ := h3 j f (by rwa [Array.getElem?_toList] at hj)
    exact ⟨_, hf⟩
  · cases h

theorem pop_binOp {op : BinOp} {t ty : TypeId} {x y : Operand} (ho : o.op = .binOp op t x y ty) (h : St n g w e S a.tmps) (hp : pop C o e = some v) : Doing C o g w a v := by
  unfold pop at hp
  rw [ho] at hp
  dsimp only at hp
  split at hp
  · rename_i u hb
    injection hp with hp
    subst hp
    obtain ⟨rv, h1, h2, h3, h4⟩ := pbin_run (P := C.P) t hb (h.ev x) (h.ev y)
    have hbare : u.bare = u := by
      unfold pbin at hb
      split at hb
      all_goals try cases hb
      all_goals try (split at hb <;> cases hb)
      all_goals rfl
    refine Doing.bare h rv ?_ h2 hbare
    simp only [execOp, ho, Sem.run_bind, eqGuard_plain op t x y _ _ h3 h4, Result.andThen_ok, h1, Sem.run_pure]
  · split at hp
    · rename_i _ _ _ hT _
      cases hb : peqp (ev x e) (ev y e) with
      | none => rw [hb] at hp; cases hp
      | some b =>
        rw [hb] at hp
        simp only [Option.map_some, Option.some.injEq] at hp
        subst hp
        obtain ⟨h1, p, hp1, q, hq1⟩ := equal_ptr hT rfl hb (h.ev x) (h.ev y)
        refine Doing.bare h (.bool b) ?_ (.bool _) rfl
        rw [hp1, hq1] at h1
        simp only [execOp, ho, hp1, hq1, Sem.run_bind, eqGuard_plain .eql t x y (.pointer p) (.pointer q) (by simp) (by simp), Result.andThen_ok, Sem.run_pure]
        simp only [binOp, Sem.run_bind, h1, Result.andThen_ok, Sem.run_pure]
    · rename_i _ _ _ hT _
      cases hb : peqp (ev x e) (ev y e) with
      | none => rw [hb] at hp; cases hp
      | some b =>
        rw [hb] at hp
        simp only [Option.map_some, Option.some.injEq] at hp
        subst hp
        obtain ⟨h1, p, hp1, q, hq1⟩ := equal_ptr hT rfl hb (h.ev x) (h.ev y)
        refine Doing.bare h (.bool !b) ?_ (.bool _) rfl
        rw [hp1, hq1] at h1
        simp only [execOp, ho, hp1, hq1, Sem.run_bind, eqGuard_plain .neq t x y (.pointer p) (.pointer q) (by simp) (by simp), Result.andThen_ok, Sem.run_pure]
        simp only [binOp, Sem.run_bind, h1, Result.andThen_ok, Sem.run_pure]
    · rename_i _ _ _ hT _
      have hu := und_bool (C := C) hT rfl
      split at hp
      · rename_i p q h1 h2
        injection hp with hp
        subst hp
        have hx := h.ev x
        rw [h1] at hx
        have hx := rel_bool hx
        have hy := h.ev y
        rw [h2] at hy
        have hy := rel_bool hy
        refine Doing.bare h _ ?_ (.bool _) rfl
        simp only [execOp, ho, hx, hy, Sem.run_bind, eqGuard_plain .eql t x y (.bool p) (.bool q) (by simp) (by simp), Result.andThen_ok, Sem.run_pure]
        simp only [binOp, Sem.run_bind, equal_bool hu, Result.andThen_ok, Sem.run_pure]
      · cases hp
    · rename_i _ _ _ hT _
      have hu := und_bool (C := C) hT rfl
      split at hp
      · rename_i p q h1 h2
        injection hp with hp
        subst hp
        have hx := h.ev x
        rw [h1] at hx
        have hx := rel_bool hx
        have hy := h.ev y
        rw [h2] at hy
        have hy := rel_bool hy
        refine Doing.bare h _ ?_ (.bool _) rfl
        simp only [execOp, ho, hx, hy, Sem.run_bind, eqGuard_plain .neq t x y (.bool p) (.bool q) (by simp) (by simp), Result.andThen_ok, Sem.run_pure]
        simp only [binOp, Sem.run_bind, equal_bool hu, Result.andThen_ok, Sem.run_pure]
      · cases hp
    · rename_i fs _ _ _ hT _
      cases hb : peqS C t fs (ev x e) (ev y e) with
      | none => rw [hb] at hp; cases hp
      | some b =>
        rw [hb] at hp
        simp only [Option.map_some, Option.some.injEq] at hp
        subst hp
        obtain ⟨vs, us, h1, h2, h3, h4⟩ := peqS_run hT rfl hb (h.ev x) (h.ev y)
        refine Doing.bare h (.bool b) ?_ (.bool _) rfl
        simp only [execOp, ho, h1, h2, Sem.run_bind, h3, Result.andThen_ok, run_eql_struct, h4, Sem.run_pure]
    · rename_i fs _ _ _ hT _
      cases hb : peqS C t fs (ev x e) (ev y e) with
      | none => rw [hb] at hp; cases hp
      | some b =>
        rw [hb] at hp
        simp only [Option.map_some, Option.some.injEq] at hp
        subst hp
        obtain ⟨vs, us, h1, h2, h3, h4⟩ := peqS_run hT rfl hb (h.ev x) (h.ev y)
        refine Doing.bare h (.bool !b) ?_ (.bool _) rfl
        simp only [execOp, ho, h1, h2, Sem.run_bind, h3, Result.andThen_ok, run_neq_struct, h4, Sem.run_pure]
    · cases hp

theorem pop_unOp {op : UnOp} {t : TypeId} {x : Operand} (ho : o.op = .unOp op t x) (h : St n g w e S a.tmps) (hp : pop C o e = some v) : Doing C o g w a v := by
  unfold pop at hp
  rw [ho] at hp
  dsimp only at hp
  unfold pun at hp
  have hx := h.ev x
  split at hp
  · rename_i b hb
    rw [hb] at hx
    have hx := rel_bool hx
    injection hp with hp
    subst hp
    refine Doing.bare h _ ?_ (.bool _) rfl
    simp [execOp, ho, hx, Op.unary]
  · rename_i k m hb
    rw [hb] at hx
    have hx := rel_int hx
    injection hp with hp
    subst hp
    refine Doing.bare h _ ?_ (.int _ _) rfl
    simp [execOp, ho, hx, Op.unary, Op.intArith]
  · rename_i k m hb
    rw [hb] at hx
    have hx := rel_int hx
    injection hp with hp
    subst hp
    refine Doing.bare h _ ?_ (.int _ _) rfl
    simp [execOp, ho, hx, Op.unary, Op.intBits]
  · cases hp

theorem pb1_get {r : List PV} {n : Int} (h : pb1 r = some n) : r = [.int .u8 n] := by
  unfold pb1 at h
  split at h
  · injection h with h
    rw [h]
  · cases h
theorem pbs_get : ∀ (rows : List (List PV)) (ns : List Int), pbs rows = some ns → ns.length = rows.length ∧ ∀ (j : Nat) n, ns[j]? = some n → rows[j]? = some [.int .u8 n]
  | [], ns, h => by
    simp only [pbs, Option.some.injEq] at h
    subst h
    exact ⟨rfl, by simp⟩
  | r :: rs, ns, h => by
    simp only [pbs] at h
    cases h1 : pb1 r with
    | none => rw [h1] at h; cases h
    | some n =>
      rw [h1] at h
      cases hr : pbs rs with
      | none => rw [hr] at h; cases h
      | some ms =>
        rw [hr] at h
        simp only [Option.some.injEq] at h
        subst h
        obtain ⟨h3, h2⟩ := pbs_get rs ms hr
        refine ⟨by simp [h3], fun j m hj => ?_⟩
        rcases j with _ | j
        · simp at hj; subst hj; rw [pb1_get h1]; rfl
        · simpa using h2 j m (by simpa using hj)

theorem bytes_run {src dst el : TypeId} {f : Fl} {rows : List (List PV)} {rv : Value} {ns : List Int} (hs : C.P.underlying src = some (.slice el)) (he : C.P.underlying el = some (.int .u8)) (hd : C.P.underlying dst = some .string) (hr : Rel g w (.sl f 1 rows) rv) (hb : pbs rows = some ns) :
    (convert src dst rv).run C.P w = .ok (.string (bsOf ns)) w := by
  obtain ⟨hl, hg⟩ := pbs_get rows ns hb
  cases hr with
  | slnil =>
    have : ns = [] := List.eq_nil_of_length_eq_zero (by simpa using hl)
    subst this
    rw [run_convert_bytes_string w src dst el none 0 0 hs he hd]
    rfl
  | @sl _ _ _ b o' cap sp fv hc hlr h1 h2 hsp =>
    rw [run_convert_bytes_string w src dst el _ _ _ hs he hd]
    refine run_bytesToString w _ _ cap ns ?_
    have := run_loadCells_list (P := C.P) w ⟨b, o', sp⟩ (ns.map (Value.int .u8)) (fun j v hj => by
      simp only [List.getElem?_map, Option.map_eq_some_iff] at hj
      obtain ⟨n, hn, rfl⟩ := hj
      have hrow := hg j n hn
      have hne : sp = none := by
        rcases hsp with e1 | e1
        · rw [e1] at hrow; simp at hrow
        · exact e1
      subst hne
      obtain ⟨q1, q2, q3⟩ := h1 j _ 0 _ hrow rfl
      have q4 := rel_int (h2 j _ 0 _ hrow rfl)
      rw [q4] at q2
      rw [Addr.add_lit]
      simpa using q2)
    rw [List.length_map, hl] at this
    exact this

theorem pop_convert {s d : TypeId} {x : Operand} (ho : o.op = .convert s d x) (h : St n g w e S a.tmps) (hp : pop C o e = some v) : Doing C o g w a v := by
  unfold pop at hp
  rw [ho] at hp
  dsimp only at hp
  have hx := h.ev x
  split at hp
  · rename_i ti k _ _ _ kk m hs hd hb
    obtain ⟨ds, hus⟩ := und_any (C := C) hs
    have hud := und_int (C := C) hd rfl
    rw [hb] at hx
    have hx := rel_int hx
    injection hp with hp
    subst hp
    refine Doing.bare h _ ?_ (.int _ _) rfl
    simp only [execOp, ho, hx, convert, Sem.run_bind, run_underlying hus, run_underlying hud, Result.andThen_ok, Conv.intToInt, Sem.run_pure]
  · rename_i b hs hd hb
    have hus := und_str (C := C) hs rfl
    have hud := und_str (C := C) hd rfl
    rw [hb] at hx
    have hx := rel_str hx
    injection hp with hp
    subst hp
    refine Doing.bare h _ ?_ (.str _) rfl
    simp only [execOp, ho, hx, convert, Sem.run_bind, run_underlying hus, run_underlying hud, Result.andThen_ok, Sem.run_pure]
  · rename_i el _ _ _ _ _ _ f rows hs hd hb
    have hus := und_slice (C := C) hs rfl
    have hud := und_str (C := C) hd rfl
    split at hp
    · rename_i he
      have hue := und_int (C := C) he rfl
      rw [hb] at hx
      cases hbs : pbs rows with
      | none => rw [hbs] at hp; cases hp
      | some ns =>
        rw [hbs] at hp
        simp only [Option.map_some, Option.some.injEq] at hp
        subst hp
        refine Doing.bare h (.string (bsOf ns)) ?_ (.str _) rfl
        have hrun := bytes_run (w := w) hus hue hud hx hbs
        simp only [execOp, ho, Sem.run_bind, hrun, Result.andThen_ok, Sem.run_pure]
    · cases hp
  · cases hp

theorem pop_extract {x : Operand} {i : Nat} (ho : o.op = .extract x i) (h : St n g w e S a.tmps) (hp : pop C o e = some v) : Doing C o g w a v := by
  unfold pop at hp
  rw [ho] at hp
  dsimp only at hp
  have hx := h.ev x
  split at hp
  · rename_i vs hb
    rw [hb] at hx
    cases hc : vs[i]? with
    | none => rw [hc] at hp; cases hp
    | some u =>
      rw [hc] at hp
      simp only [Option.map_some, Option.some.injEq] at hp
      subst hp
      obtain ⟨us, hus, hl, hr⟩ : ∃ us, a.eval x = .tuple us ∧ vs.length = us.size ∧ ∀ (k : Nat) v rv, vs[k]? = some v → us[k]? = some rv → Rel g w v rv := by
        generalize a.eval x = q at hx
        cases hx with
        | tup hl hr => exact ⟨_, rfl, hl, hr⟩
      have hlt : i < us.size := by rw [← hl]; exact (List.getElem?_eq_some_iff.1 hc).1
      have he : us[i]? = some us[i] := Array.getElem?_eq_getElem hlt
      refine Doing.still h us[i] ?_ fun d => .ofBare (hr _ _ _ hc he)
      simp only [execOp, ho, hus, Instr.extract, he, Sem.run_bind, Sem.run_pure, Result.andThen_ok]
  · cases hp

theorem pop_makeFunc {f : Fn} {xs cs : Array Operand} (ho : o.op = .makeFunc f xs cs) (h : St n g w e S a.tmps) (hp : pop C o e = some v) : Doing C o g w a v := by
  unfold pop at hp
  rw [ho] at hp
  dsimp only at hp
  injection hp with hp
  subst hp
  refine Doing.bare h (.func f (xs.map a.eval) (cs.map a.eval)) ?_ ?_ rfl
  · simp only [execOp, ho, Instr.makeFunc, Sem.run_bind, Sem.run_pure, Result.andThen_ok]
  · have key : ∀ (ys : Array Operand) (k : Nat) v rv, (ys.toList.map fun x => (ev x e).bare)[k]? = some v → (ys.map a.eval)[k]? = some rv → Rel g w v rv := by
      intro ys k v rv h1 h2
      simp only [List.getElem?_map, Option.map_eq_some_iff, Array.getElem?_map] at h1 h2
      obtain ⟨p, h1, rfl⟩ := h1
      obtain ⟨q, h2, rfl⟩ := h2
      rw [Array.getElem?_toList, h2] at h1
      injection h1 with h1
      subst h1
      exact (h.ev q).bare
    exact .fn (by simp) (by simp) (key xs) (key cs)
end
end Go.VL
