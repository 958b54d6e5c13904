/- VL, part 3: operations that make memory, or look into it. -/
import Derived.Test.YtmedhhjbknnfkaaVL2
namespace Go.VL
open Go

def Gh.mark (g : Gh) (b0 : Nat) (l : Nat → Lab) : Gh := { g with lab := fun b o => if b = b0 then l o else g.lab b o }

theorem Quiet.alloc {g : Gh} {w : World} (hn : ∀ b o, w.heap.size ≤ b → g.lab b o = .free) (o : Obj) (l : Nat → Lab) : Quiet g (g.mark w.heap.size l) w (w.alloc o) where
  os := rfl
  tape := rfl
  output := rfl
  size := by simp
  frozen b o hl := by
    have : b ≠ w.heap.size := fun e => by have := hn b o (by omega); rw [this] at hl; cases hl
    simpa [Gh.mark, this] using hl
  foreign b o hl := by
    have : b ≠ w.heap.size := fun e => by have := hn b o (by omega); rw [this] at hl; cases hl
    simpa [Gh.mark, this] using hl
  own b o hb hl := by
    have : b ≠ w.heap.size := by omega
    simpa [Gh.mark, this] using hl
  kept b o hb _ := World.cell?_alloc_lt w _ ⟨b, o, none⟩ hb
  mark b o hb := World.frozen?_alloc_old w _ ⟨b, o, none⟩ (Nat.ne_of_lt hb)
  some b o hs := by
    have hb := lt_of_isSome hs
    rw [World.cell?_alloc_lt w _ ⟨b, o, none⟩ hb]
    exact hs
  block b hb _ := RowKit.Below.heap_alloc w _ b hb
  loc _ _ := rfl
  nxt := Nat.le_refl _
  same b o hb hl := by
    have : b ≠ w.heap.size := by omega
    exact ⟨by simp [Gh.mark, this], World.cell?_alloc_lt w _ ⟨b, o, none⟩ hb⟩
  new b o hb := by
    simp at hb
    have : b ≠ w.heap.size := by omega
    simpa [Gh.mark, this] using hn b o (by omega)

theorem Quiet.drew {g : Gh} {w : World} (hn : ∀ b o, w.heap.size ≤ b → g.lab b o = .free) : Quiet g g w w.drew :=
  ⟨⟨rfl, rfl, rfl, Nat.le_refl _, fun _ _ h => h, fun _ _ h => h, fun _ _ _ h => h, fun _ _ _ _ => rfl, fun _ _ _ => rfl, fun _ _ h => h, fun _ _ _ => rfl, fun _ _ => rfl, Nat.le_refl _⟩, fun _ _ _ _ => ⟨rfl, rfl⟩, hn⟩

structure CR (g : Gh) (w : World) (cs : List PV) (vs : Array Value) : Prop where
  len : cs.length = vs.size
  rel : ∀ (k : Nat) v rv, cs[k]? = some v → vs[k]? = some rv → Rel g w v rv
  one : ∀ (k : Nat) rv, vs[k]? = some rv → rv.oneCell' = true

theorem CR.mono {g g' : Gh} {w w' : World} {cs : List PV} {vs : Array Value} (fr : Fr g g' w w') (h : CR g w cs vs) : CR g' w' cs vs := ⟨h.len, fun k v rv h1 h2 => (h.rel k v rv h1 h2).mono fr, h.one⟩

def pcells : PV → Option (List PV)
  | .undef => none
  | .fresh _ => none
  | .tup _ => none
  | .agg cs => some cs
  | v => some [v.bare]

theorem pcells_rel {g : Gh} {w : World} {v : PV} {rv : Value} {cs : List PV} (h : pcells v = some cs) (hr : Rel g w v rv) : CR g w cs rv.cells := by
  have one : ∀ (v : PV) (rv : Value), Rel g w v rv → rv.oneCell' = true → rv.cells = #[rv] → CR g w [v.bare] rv.cells := by
    intro v rv hr h1 h2
    rw [h2]
    refine ⟨by simp, fun k u x hu hx => ?_, fun k x hx => ?_⟩
    · rcases k with _ | k <;> simp at hu hx
      subst hu; subst hx
      exact hr.bare
    · rcases k with _ | k <;> simp at hx
      subst hx
      exact h1
  cases hr <;> simp only [pcells, Option.some.injEq, reduceCtorEq] at h
  case agg vs hl h1 hr' => subst h; exact ⟨hl, hr', h1⟩
  all_goals (subst h)
  case bool b => exact one _ _ (.bool b) rfl rfl
  case int k n => exact one _ _ (.int k n) rfl rfl
  case str s => exact one _ _ (.str s) rfl rfl
  case nilp => exact one _ _ .nilp rfl rfl
  case ip f h hr' => exact one _ _ (.ip f h hr') rfl rfl
  case ref h => exact one _ _ (.ref h) rfl rfl
  case nils => exact one _ _ .nils rfl rfl
  case slnil f sz => exact one _ _ (.slnil f sz) rfl rfl
  case sl fv hc hl h hr' hs => exact one _ _ (.sl fv hc hl h hr' hs) rfl rfl
  case fn hl hm h1 h2 => exact one _ _ (.fn hl hm h1 h2) rfl rfl
  case nilf => exact one _ _ .nilf rfl rfl
  case arr0 f id off sz a cap h => exact one _ _ (.arr0 f id off sz a cap h) rfl rfl
  case arr h hc => exact one _ _ (.arr _ h hc) rfl rfl
  case np f hb h hr' => exact one _ _ (.np f hb h hr') rfl rfl
  case ifc rv0 h => exact one _ _ (.ifc _ h) rfl rfl
  case nili => exact one _ _ .nili rfl rfl

/-- A new block, whose cells never change. -/
theorem rel_alloc {g : Gh} {w : World} (hn : ∀ b o, w.heap.size ≤ b → g.lab b o = .free) {cs : List PV} {vs : Array Value} (h : CR g w cs vs) (t : TypeId) :
    Quiet g (g.mark w.heap.size fun _ => .frozen) w (w.alloc (.cells vs t)) ∧ ∀ (k : Nat) v, cs[k]? = some v → ∃ rv, vs[k]? = some rv ∧
      (g.mark w.heap.size fun _ => .frozen).lab w.heap.size k = .frozen ∧ (w.alloc (.cells vs t)).cell? ⟨w.heap.size, k, none⟩ = some rv ∧ rv.oneCell' = true ∧ Rel (g.mark w.heap.size fun _ => .frozen) (w.alloc (.cells vs t)) v rv := by
  have q := Quiet.alloc hn (.cells vs t) (fun _ => .frozen)
  refine ⟨q, fun k v hk => ?_⟩
  have hlt : k < vs.size := by rw [← h.len]; exact (List.getElem?_eq_some_iff.1 hk).1
  have he : vs[k]? = some vs[k] := Array.getElem?_eq_getElem hlt
  refine ⟨vs[k], he, by simp [Gh.mark], ?_, h.one k _ he, (h.rel k v _ hk he).mono q.toFr⟩
  rw [World.cell?_alloc_new]
  exact he

theorem rel_box {g : Gh} {w : World} (hn : ∀ b o, w.heap.size ≤ b → g.lab b o = .free) {cs : List PV} {vs : Array Value} (h : CR g w cs vs) (t : TypeId) :
    Rel (g.mark w.heap.size fun _ => .frozen) (w.alloc (.cells vs t)) (.ip cs 0) (.pointer (some ⟨w.heap.size, 0, none⟩)) := by
  obtain ⟨_, hq⟩ := rel_alloc hn h t
  refine .ip (b := w.heap.size) (o := 0) (fun k => vs.getD k Go.undef) (fun k v hk => ?_) (fun k v hk => ?_)
  · obtain ⟨rv, h1, h2, h3, h4, h5⟩ := hq k v hk
    have : vs.getD k Go.undef = rv := by simp [Array.getD_eq_getD_getElem?, h1]
    rw [this]
    simp only [Nat.zero_add]
    exact ⟨h2, h3, h4⟩
  · obtain ⟨rv, h1, h2, h3, h4, h5⟩ := hq k v hk
    have : vs.getD k Go.undef = rv := by simp [Array.getD_eq_getD_getElem?, h1]
    rw [this]
    exact h5

/-! ### what is put together -/
def psplice (cells : List PV) (off : Nat) (vc : List PV) : List PV := cells.take off ++ vc ++ cells.drop (off + vc.length)
def pfill (place : Nat → Option (Nat × Nat)) (cells : List PV) : List (Nat × PV) → Option (List PV)
  | [] => some cells
  | (i, v) :: rest =>
    match place i, pcells v with
    | some (off, size), some vc => if vc.length = size ∧ off + size ≤ cells.length then pfill place (psplice cells off vc) rest else none
    | _, _ => none

theorem foldl_splice (off : Nat) : ∀ (l : List Value) (j0 : Nat) (cs : Array Value),
    ((l.zipIdx j0).foldl (fun cs (p : Value × Nat) => cs.setIfInBounds (off + p.2) p.1) cs).size = cs.size ∧
    ∀ k, ((l.zipIdx j0).foldl (fun cs (p : Value × Nat) => cs.setIfInBounds (off + p.2) p.1) cs)[k]? = if off + j0 ≤ k ∧ k < off + j0 + l.length ∧ k < cs.size then l[k - (off + j0)]? else cs[k]?
  | [], j0, cs => ⟨rfl, fun k => by
      simp only [List.zipIdx_nil, List.foldl_nil, List.length_nil, Nat.add_zero]
      rw [if_neg (by omega)]⟩
  | v :: l, j0, cs => by
    have ih := foldl_splice off l (j0 + 1) (cs.setIfInBounds (off + j0) v)
    simp only [List.zipIdx_cons, List.foldl_cons, List.length_cons]
    refine ⟨by rw [ih.1]; simp, fun k => ?_⟩
    rw [ih.2 k]
    simp only [Array.size_setIfInBounds, Array.getElem?_setIfInBounds]
    by_cases h1 : off + (j0 + 1) ≤ k ∧ k < off + (j0 + 1) + l.length ∧ k < cs.size
    · rw [if_pos h1, if_pos (by omega)]
      rw [show k - (off + j0) = (k - (off + (j0 + 1))) + 1 from by omega]
      simp
    · rw [if_neg h1]
      by_cases h2 : off + j0 = k
      · by_cases h3 : k < cs.size
        · rw [if_pos h2, if_pos (by omega), if_pos (by omega), show k - (off + j0) = 0 from by omega]
          simp
        · rw [if_pos h2, if_neg (by omega), if_neg (by omega), Array.getElem?_eq_none (by omega)]
      · rw [if_neg h2, if_neg (by omega)]

theorem psplice_get (cells : List PV) (off : Nat) (vc : List PV) (h : off + vc.length ≤ cells.length) : (psplice cells off vc).length = cells.length ∧ ∀ k, (psplice cells off vc)[k]? = if off ≤ k ∧ k < off + vc.length then vc[k - off]? else cells[k]? := by
  unfold psplice
  refine ⟨by simp; omega, fun k => ?_⟩
  by_cases h1 : k < off
  · rw [if_neg (by omega), List.append_assoc, List.getElem?_append_left (by simp; omega), List.getElem?_take]
    simp [h1]
  · by_cases h2 : k < off + vc.length
    · rw [if_pos (by omega), List.append_assoc, List.getElem?_append_right (by simp; omega), List.getElem?_append_left (by simp; omega)]
      simp [Nat.min_eq_left (show off ≤ cells.length by omega)]
    · rw [if_neg (by omega), List.getElem?_append_right (by simp; omega)]
      simp only [List.getElem?_drop]
      congr 1
      simp
      omega

theorem CR.splice {g : Gh} {w : World} {cells vc : List PV} {vs us : Array Value} {off : Nat} (h : CR g w cells vs) (hv : CR g w vc us) (hl : off + vc.length ≤ cells.length) :
    CR g w (psplice cells off vc) (us.zipIdx.foldl (fun cs (c, j) => cs.setIfInBounds (off + j) c) vs) := by
  have e : us.zipIdx.foldl (fun cs (c, j) => cs.setIfInBounds (off + j) c) vs = (us.toList.zipIdx 0).foldl (fun cs (p : Value × Nat) => cs.setIfInBounds (off + p.2) p.1) vs := by
    rw [← Array.foldl_toList]
    simp
  rw [e]
  obtain ⟨f1, f2⟩ := foldl_splice off us.toList 0 vs
  obtain ⟨p1, p2⟩ := psplice_get cells off vc hl
  have hu : us.toList.length = vc.length := by simp [hv.len]
  refine ⟨by rw [p1, f1]; exact h.len, fun k v rv hk hrv => ?_, fun k rv hrv => ?_⟩
  · rw [p2] at hk
    rw [f2] at hrv
    by_cases hin : off ≤ k ∧ k < off + vc.length
    · rw [if_pos hin] at hk
      have := h.len
      rw [if_pos (by omega)] at hrv
      exact hv.rel (k - off) v rv hk (by simpa using hrv)
    · rw [if_neg hin] at hk
      rw [if_neg (by omega)] at hrv
      exact h.rel k v rv hk hrv
  · rw [f2] at hrv
    split at hrv
    · exact hv.one _ _ (by simpa using hrv)
    · exact h.one _ _ hrv

theorem fill_rel {g : Gh} {w : World} (place : Nat → Option (Nat × Nat)) : ∀ (parts : List (Nat × Value)) (pp : List (Nat × PV)) (cells : List PV) (vs : Array Value) (out : List PV), CR g w cells vs → pp.length = parts.length →
    (∀ (k : Nat) p q, pp[k]? = some p → parts[k]? = some q → p.1 = q.1 ∧ Rel g w p.2 q.2) → pfill place cells pp = some out → ∃ us, Instr.fill place vs parts = some us ∧ CR g w out us
  | [], pp, cells, vs, out, h, hl, hp, he => by
    have : pp = [] := List.eq_nil_of_length_eq_zero (by simpa using hl)
    subst this
    simp only [pfill, Option.some.injEq] at he
    subst he
    exact ⟨vs, rfl, h⟩
  | (i, v) :: rest, [], cells, vs, out, h, hl, hp, he => by simp at hl
  | (i, v) :: rest, (j, u) :: pr, cells, vs, out, h, hl, hp, he => by
    obtain ⟨h1, h2⟩ := hp 0 _ _ rfl rfl
    dsimp only at h1 h2
    subst h1
    simp only [pfill] at he
    split at he
    · rename_i off size vc hpl hpc
      split at he
      · rename_i hc
        have hcr := pcells_rel hpc h2
        have hsz : v.cells.size = size := by rw [← hcr.len]; exact hc.1
        have hle : off + vc.length ≤ cells.length := by rw [hc.1]; exact hc.2
        obtain ⟨us, hus, hcr'⟩ := fill_rel place rest pr _ _ out (h.splice hcr hle) (by simpa using hl) (fun k p q h3 h4 => hp (k + 1) p q (by simpa using h3) (by simpa using h4)) he
        refine ⟨us, ?_, hcr'⟩
        simp only [Instr.fill, hpl]
        rw [if_neg (by
          have := h.len
          simp only [Bool.or_eq_true, decide_eq_true_eq]
          omega)]
        exact hus
      · cases he
    · cases he
end Go.VL
