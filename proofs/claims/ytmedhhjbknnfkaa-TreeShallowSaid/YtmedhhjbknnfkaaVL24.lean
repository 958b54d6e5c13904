/- VL, part 24: arrays of one's own that are given away, or lent. -/
import Derived.Test.YtmedhhjbknnfkaaVL23
set_option linter.unusedVariables false
set_option linter.unusedSimpArgs false
namespace Go.VL
open Go

/-- The same value, where arrays of one's own count as what stands in them. -/
inductive Fz (Sf : Store) : PV → PV → Prop where
  | refl (v : PV) : Fz Sf v v
  | bare (v : PV) : Fz Sf v v.bare
  | arr {f : Fl} {id off len sz : Nat} {cells : List PV} {rows : List (List PV)} (hS : Sf id = some cells) (hlen : rows.length = len) (hl : ∀ (j : Nat) (c : List PV), rows[j]? = some c → c.length = sz)
      (g : Nat → Nat → PV) (hg : ∀ (j : Nat) (c : List PV) (k : Nat) (v : PV), rows[j]? = some c → c[k]? = some v → cells[off + (j * sz + k)]? = some (g j k))
      (hz : ∀ (j : Nat) (c : List PV) (k : Nat) (v : PV), rows[j]? = some c → c[k]? = some v → Fz Sf (g j k) v) : Fz Sf (.arr f id off len sz) (.sl .no sz rows)
  | sl {f : Fl} {sz : Nat} {rows rows' : List (List PV)} (hl : rows.length = rows'.length) (hc : ∀ (j : Nat) (c c' : List PV), rows[j]? = some c → rows'[j]? = some c' → c.length = c'.length)
      (hz : ∀ (j : Nat) (c c' : List PV) (k : Nat) (v v' : PV), rows[j]? = some c → rows'[j]? = some c' → c[k]? = some v → c'[k]? = some v' → Fz Sf v v') : Fz Sf (.sl f sz rows) (.sl .no sz rows')
  | ip {cs cs' : List PV} {off : Nat} (hl : cs.length = cs'.length) (hz : ∀ (k : Nat) (v v' : PV), cs[k]? = some v → cs'[k]? = some v' → Fz Sf v v') : Fz Sf (.ip cs off) (.ip cs' off)
  | agg {cs cs' : List PV} (hl : cs.length = cs'.length) (hz : ∀ (k : Nat) (v v' : PV), cs[k]? = some v → cs'[k]? = some v' → Fz Sf v v') : Fz Sf (.agg cs) (.agg cs')
  | tup {cs cs' : List PV} (hl : cs.length = cs'.length) (hz : ∀ (k : Nat) (v v' : PV), cs[k]? = some v → cs'[k]? = some v' → Fz Sf v v') : Fz Sf (.tup cs) (.tup cs')

theorem get_of_len {α β : Type} {l : List α} {m : List β} (h : l.length = m.length) {k : Nat} {y : β} (hy : m[k]? = some y) : ∃ x, l[k]? = some x :=
  ⟨_, List.getElem?_eq_getElem (by rw [h]; exact (List.getElem?_eq_some_iff.1 hy).1)⟩

theorem Fz.rel {Sf : Store} {g g1 : Gh} {w : World} (hfr : ∀ b o, g.lab b o = .frozen → g1.lab b o = .frozen) (hob : ∀ b o id, g.lab b o = .obj id → (Sf id).isSome = true → g1.lab b o = .frozen) (hloc : g1.loc = g.loc) (hn : g1.nxt = g.nxt)
    (hobj : ∀ id cells, Sf id = some cells → ObjOk g w id cells) {v v' : PV} (h : Fz Sf v v') : ∀ {rv : Value}, Rel g w v rv → Rel g1 w v' rv := by
  have same : ∀ {v : PV} {rv : Value}, Rel g w v rv → Rel g1 w v rv := fun h =>
    h.same hfr (fun _ _ _ _ hc => hc) (fun _ _ => by rw [hloc]) (by omega) (fun _ h => h)
  induction h with
  | refl v => exact same
  | bare v => exact fun h => (same h).bare
  | @arr f id off len sz cells rows hS hlen hl gg hg hz ih =>
    intro rv hr
    cases hr with
    | arr0 f id off sz a cap ha =>
      have hre : rows = [] := List.eq_nil_of_length_eq_zero hlen
      subst hre
      cases a with
      | none => rw [ha rfl]; exact .slnil _ _
      | some a =>
        obtain ⟨b, o, sp⟩ := a
        have := @Rel.sl g1 w .no sz [] b o cap sp (fun _ _ => Go.undef) (by simp) (by simp) (by simp) (by simp) (.inl rfl)
        simpa using this
    | @arr _ _ _ _ _ cap hid hcap =>
      have hobj := hobj id cells hS
      have key : ∀ (j : Nat) (c : List PV) (k : Nat) (v : PV), rows[j]? = some c → c[k]? = some v → g1.lab (g.loc id).1 ((g.loc id).2 + off + (j * sz + k)) = .frozen ∧ ∃ u, w.cell? ⟨(g.loc id).1, (g.loc id).2 + off + (j * sz + k), none⟩ = some u ∧ u.oneCell' = true ∧ Rel g1 w v u := by
        intro j c k v hj hk
        obtain ⟨q1, q2, u, q3, q4, q5, _⟩ := hobj.cell _ _ (hg j c k v hj hk)
        refine ⟨?_, u, ?_, q4, ih j c k v hj hk q5⟩
        · rw [Nat.add_assoc]; exact hob _ _ _ q1 (by rw [hS]; rfl)
        · rw [Nat.add_assoc]; exact q3
      have := @Rel.rows g1 w .no sz rows (g.loc id).1 ((g.loc id).2 + off) cap (by omega) hl key
      rwa [hlen] at this
  | @sl f sz rows rows' hl hc hz ih =>
    intro rv hr
    cases hr with
    | slnil =>
      have : rows' = [] := List.eq_nil_of_length_eq_zero hl.symm
      subst this
      exact .slnil _ _
    | @sl _ _ _ b o cap sp fv h1 h2 h3 h4 h5 =>
      have := @Rel.sl g1 w .no sz rows' b o cap sp fv (by omega) (fun j c' hj => by
        obtain ⟨c, hc1⟩ := get_of_len hl hj
        rw [← hc j c c' hc1 hj]
        exact h2 j c hc1) (fun j c' k v' hj hk => by
        obtain ⟨c, hc1⟩ := get_of_len hl hj
        obtain ⟨v, hv1⟩ := get_of_len (hc j c c' hc1 hj) hk
        obtain ⟨q1, q2, q3⟩ := h3 j c k v hc1 hv1
        exact ⟨hfr _ _ q1, q2, q3⟩) (fun j c' k v' hj hk => by
        obtain ⟨c, hc1⟩ := get_of_len hl hj
        obtain ⟨v, hv1⟩ := get_of_len (hc j c c' hc1 hj) hk
        exact ih j c c' k v v' hc1 hj hv1 hk (h4 j c k v hc1 hv1)) (h5.elim (fun h => .inl (List.eq_nil_of_length_eq_zero (by rw [← hl, h]; rfl))) .inr)
      rwa [hl]
  | @ip cs cs' off hl hz ih =>
    intro rv hr
    cases hr with
    | ip fv h3 h4 =>
      exact .ip fv (fun k v' hk => by
        obtain ⟨v, hv1⟩ := get_of_len hl hk
        obtain ⟨q1, q2, q3⟩ := h3 k v hv1
        exact ⟨hfr _ _ q1, q2, q3⟩) (fun k v' hk => by
        obtain ⟨v, hv1⟩ := get_of_len hl hk
        exact ih k v v' hv1 hk (h4 k v hv1))
  | @agg cs cs' hl hz ih =>
    intro rv hr
    cases hr with
    | agg h1 h2 h3 =>
      exact .agg (by omega) h2 (fun k v' rv hk hrv => by
        obtain ⟨v, hv1⟩ := get_of_len hl hk
        exact ih k v v' hv1 hk (h3 k v rv hv1 hrv))
  | @tup cs cs' hl hz ih =>
    intro rv hr
    cases hr with
    | tup h1 h3 =>
      exact .tup (by omega) (fun k v' rv hk hrv => by
        obtain ⟨v, hv1⟩ := get_of_len hl hk
        exact ih k v v' hv1 hk (h3 k v rv hv1 hrv))

/-! ### given away -/
def Gh.freeze (g : Gh) (Sf : Store) : Gh := { g with lab := fun b o => match g.lab b o with | .obj id => if (Sf id).isSome then .frozen else .obj id | l => l }
theorem freeze_lab {g : Gh} {Sf : Store} {b o : Nat} : (g.freeze Sf).lab b o = (match g.lab b o with | .obj id => if (Sf id).isSome then .frozen else .obj id | l => l) := rfl
theorem Fr.freeze (g : Gh) (w : World) (Sf : Store) : Fr g (g.freeze Sf) w w where
  os := rfl
  tape := rfl
  output := rfl
  size := Nat.le_refl _
  frozen b o hl := by rw [freeze_lab, hl]
  foreign b o hl := by rw [freeze_lab, hl]
  own b o hb hl := by
    rw [freeze_lab] at hl
    cases hg : g.lab b o <;> rw [hg] at hl <;> first | exact hl | trivial
  kept _ _ _ _ := rfl
  mark _ _ _ := rfl
  some _ _ h := h
  block _ _ _ := rfl
  loc _ _ := rfl
  nxt := Nat.le_refl _

theorem PCalls.freeze {P : Program} {f : FuncId} {args : List PV} {S : Store} {K K0 : PV → Store → Prop} (h : PCalls P f args S K0)
    (hK : ∀ v S', K0 v S' → ∃ v' Sf, (∀ id c, Sf id = some c → S' id = some c) ∧ Fz Sf v v' ∧ v'.bare = v' ∧ K v' (fun id => if (Sf id).isSome then none else S' id)) : PCalls P f args S K := by
  refine ⟨h.1, fun g w rargs hst => (h.2 g w rargs hst).mono fun en w' => ?_⟩
  rintro ⟨rv, v, S', g', rfl, hk, fr, htop, hobjs, hnew⟩
  obtain ⟨v', Sf, h1, h2, h3, h4⟩ := hK v S' hk
  have fr2 := Fr.freeze g' w' Sf
  refine ⟨rv, v', _, g'.freeze Sf, rfl, h4, fr.trans fr2, .ofRel (h2.rel (g := g') (g1 := g'.freeze Sf) (fun b o hl => by rw [freeze_lab, hl]) (fun b o id hl hs => by rw [freeze_lab, hl]; simp [hs]) rfl rfl (fun id cells hi => hobjs id cells (h1 id cells hi)) htop.rel) h3, fun id cells hi => ?_, fun b o hb => by rw [freeze_lab, hnew b o hb]⟩
  have hi0 : (if (Sf id).isSome then none else S' id) = some cells := hi
  split at hi0
  · cases hi0
  · rename_i hs
    have hi := hi0
    have hob := hobjs id cells hi
    refine ⟨hob.lt, fun k u hku => ?_⟩
    obtain ⟨q1, q2, ru, q3, q4, q5, q6⟩ := hob.cell k u hku
    refine ⟨?_, q2, ru, q3, q4, q5.mono fr2, q6.map fun b o ⟨c1, c2⟩ => ⟨by rw [freeze_lab, c1], c2⟩⟩
    show (g'.freeze Sf).lab (g'.loc id).1 ((g'.loc id).2 + k) = _
    rw [freeze_lab, q1]
    simp [hs]

/-! ### lent -/
def PV.flat1 : PV → Bool
  | .bool _ => true
  | .int _ _ => true
  | .str _ => true
  | .nilp => true
  | .nilf => true
  | .nili => true
  | _ => false
def PV.flat : PV → Bool
  | .tup vs => vs.all PV.flat1
  | v => v.flat1
theorem flat1_rel {v : PV} (h : v.flat1 = true) {g g' : Gh} {w w' : World} {rv : Value} (hr : Rel g w v rv) : Rel g' w' v rv := by
  cases hr <;> first | (simp [PV.flat1] at h; done) | constructor
theorem flat_rel {v : PV} (h : v.flat = true) {g g' : Gh} {w w' : World} {rv : Value} (hr : Rel g w v rv) : Rel g' w' v rv ∧ v.bare = v := by
  have one : v.flat1 = true → Rel g' w' v rv ∧ v.bare = v := fun h1 => ⟨flat1_rel h1 hr, by cases v <;> first | rfl | simp [PV.flat1] at h1⟩
  cases v with
  | tup vs =>
    cases hr with
    | tup hl hv => exact ⟨.tup hl fun k v rv h1 h2 => flat1_rel (List.all_eq_true.1 h v (List.mem_of_getElem? h1)) (hv k v rv h1 h2), rfl⟩
  | _ => exact one h

/-- Who answers of slices answers of arrays of one's own, if what is answered leads nowhere. -/
theorem PRet.borrow {P : Program} {f : FuncId} {args args' : List PV} {S : Store} {v : PV} (h : PRet P f args' (fun _ => none) v) (hf : v.flat = true) (hl : args.length = args'.length)
    (hz : ∀ (k : Nat) p q, args[k]? = some p → args'[k]? = some q → Fz S p q ∧ q.bare = q) : PRet P f args S v := by
  intro K hK
  have hc := h (fun v' _ => v' = v) rfl
  refine ⟨hc.1, fun g w rargs hst => ?_⟩
  let g1 : Gh := { g with lab := fun b o => match g.lab b o with | .obj id => if (S id).isSome then .frozen else .foreign | .slot _ => .foreign | .room _ _ => .foreign | l => l }
  have lab1 : ∀ b o, g1.lab b o = (match g.lab b o with | .obj id => if (S id).isSome then .frozen else .foreign | .slot _ => .foreign | .room _ _ => .foreign | l => l) := fun _ _ => rfl
  have noown : ∀ b o, ¬ (g1.lab b o).own := by
    intro b o
    rw [lab1]
    cases g.lab b o with
    | obj id => cases hs : (S id).isSome <;> simp [hs, Lab.own]
    | _ => simp [Lab.own]
  have hst1 : St args'.length g1 w (argEnv args') (fun _ => none) rargs := by
    refine ⟨by rw [← hl]; exact hst.size, fun t ht => ?_, fun t ht => ?_, fun id cells hi => by (cases hi), fun b o hb => by rw [lab1, hst.new b o hb]⟩
    · have hq : args'[t]? = some args'[t] := List.getElem?_eq_getElem ht
      obtain ⟨p, hp⟩ := get_of_len hl hq
      obtain ⟨z1, z2⟩ := hz t p _ hp hq
      have e1 : argEnv args t = p := by simp [argEnv, List.getD_eq_getElem?_getD, hp]
      have e2 : argEnv args' t = args'[t] := by simp [argEnv, List.getD_eq_getElem?_getD, hq]
      have hr := (hst.slots t (by omega)).rel
      rw [e1] at hr
      rw [e2]
      exact .ofRel (z1.rel (g := g) (g1 := g1) (fun b o hl => by rw [lab1, hl]) (fun b o id hl hs => by rw [lab1, hl]; simp [hs]) rfl rfl hst.objs hr) z2
    · simp [argEnv, List.getD_eq_getElem?_getD, List.getElem?_eq_none ht]
  refine (hc.2 g1 w rargs hst1).mono fun en w' => ?_
  rintro ⟨rv, v', S', g1', rfl, rfl, fr, htop, hobjs, hnew⟩
  have cellk : ∀ b o, b < w.heap.size → w'.cell? ⟨b, o, none⟩ = w.cell? ⟨b, o, none⟩ := fun b o hb => fr.kept b o hb (noown b o)
  let g2 : Gh := { lab := fun b o => if b < w.heap.size then g.lab b o else if b < w'.heap.size then .foreign else .free, loc := g1'.loc, nxt := g1'.nxt }
  have lab2 : ∀ b o, b < w.heap.size → g2.lab b o = g.lab b o := fun b o hb => if_pos hb
  have lt : ∀ b o, g.lab b o ≠ .free → b < w.heap.size := fun b o hl => by
    rcases Nat.lt_or_ge b w.heap.size with h | h
    · exact h
    · exact absurd (hst.new b o h) hl
  have fr2 : Fr g g2 w w' := {
    os := fr.os, tape := fr.tape, output := fr.output, size := fr.size
    frozen := fun b o hl => by rw [lab2 b o (lt b o (by rw [hl]; simp))]; exact hl
    foreign := fun b o hl => by rw [lab2 b o (lt b o (by rw [hl]; simp))]; exact hl
    own := fun b o hb hl => by rw [lab2 b o hb] at hl; exact hl
    kept := fun b o hb _ => cellk b o hb
    mark := fr.mark, some := fr.some
    block := fun b hb _ => fr.block b hb (fun o => noown b o)
    loc := fr.loc, nxt := fr.nxt }
  obtain ⟨hr, hb⟩ := flat_rel (g' := g2) (w' := w') hf htop.rel
  refine ⟨rv, v', S, g2, rfl, hK, fr2, .ofRel hr hb, fun id cells hi => ?_, fun b o hb => ?_⟩
  · have hob := hst.objs id cells hi
    refine ⟨Nat.lt_of_lt_of_le hob.lt fr2.nxt, fun k u hku => ?_⟩
    rw [fr2.loc id hob.lt]
    obtain ⟨q1, q2, ru, q3, q4, q5, q6⟩ := hob.cell k u hku
    have hlt := World.block_lt_of_cell? w _ q3
    exact ⟨(lab2 _ _ hlt).trans q1, (fr2.mark _ _ hlt).trans q2, ru, (cellk _ _ hlt).trans q3, q4, q5.mono fr2, q6.map fun b o ⟨c1, c2, c3⟩ => by
      have hlt := lt_of_isSome c2
      exact ⟨(lab2 _ _ hlt).trans c1, by rw [cellk _ _ hlt]; exact c2, (fr2.mark _ _ hlt).trans c3⟩⟩
  · have h1 := fr2.size
    show (if b < w.heap.size then g.lab b o else if b < w'.heap.size then .foreign else .free) = Lab.free
    rw [if_neg (by omega), if_neg (by omega)]

/-- simp leaves a loop's invariant alone. -/
theorem loopK_congr {I : Env → Store → Prop} {m : Env → Store → Nat} {k : Nat} {Q : Post} {px : PExit} {e e' : Env} {S : Store} (h : e = e') : loopK I m k Q px e S = loopK I m k Q px e' S := by rw [h]
attribute [congr] loopK_congr
/-- What a slot counts. -/
def iv : PV → Nat
  | .int _ k => k.toNat
  | _ => 0
theorem iv_int {k : IntKind} {z : Int} : iv (.int k z) = z.toNat := rfl
attribute [go_sem] iv_int
theorem loop_next {I : Env → Store → Prop} {m : Env → Store → Nat} {k : Nat} {Q : Post} {e : Env} {S : Store} (S' : Store) (hs : ∀ id c, S' id = some c → S id = some c) (hI : I e S') (hm : m e S' < k) : loopK I m k Q .normal e S := ⟨S', hs, hI, hm⟩

/-- A loop whose body is walked with what is around it out of sight. -/
theorem vloop {C : Ctx} {X : Fx} {c : Code} {Q : Post} {e : Env} {S : Store} (I : Env → Store → Prop) (m : Env → Store → Nat) (h0 : I e S)
    (h : ∀ (J : Env → Store → Prop) (M : Env → Store → Nat) (Q' : Post), (∀ e S, I e S → J e S) → (∀ e S, M e S = m e S) → (∀ px e S, Q px e S → Q' px e S) → ∀ e S, I e S → vwp C X c (loopK J M (m e S) Q') e S) : vwp C X (.loop c) Q e S :=
  ⟨I, m, h0, h I m Q (fun _ _ h => h) (fun _ _ => rfl) (fun _ _ _ h => h)⟩
theorem vnext {I J : Env → Store → Prop} {m M : Env → Store → Nat} {k : Nat} {Q : Post} {e : Env} {S : Store} (hJ : ∀ e S, I e S → J e S) (hM : ∀ e S, M e S = m e S) (S' : Store) (hs : ∀ id c, S' id = some c → S id = some c) (hI : I e S') (hm : m e S' < k) : loopK J M k Q .normal e S :=
  ⟨S', hs, hJ _ _ hI, by rw [hM]; exact hm⟩
theorem nat0 : ((0 : Nat) : Int) = 0 := rfl
attribute [go_sem] nat0
theorem x_pb_xor {k : IntKind} {a b : Int} : pbin .xor (.int k a) (.int k b) = some (.int k (k.wrap (BitVec.ofInt k.bits a ^^^ BitVec.ofInt k.bits b).toNat)) := by simp [pbin]
theorem x_pb_or {k : IntKind} {a b : Int} : pbin .or (.int k a) (.int k b) = some (.int k (k.wrap (BitVec.ofInt k.bits a ||| BitVec.ofInt k.bits b).toNat)) := by simp [pbin]
attribute [go_sem] x_pb_xor x_pb_or
end Go.VL
