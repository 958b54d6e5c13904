/- VL, part 22: what a claim's reading of an argument says, as plain values. -/
import Derived.Test.YtdioedabjaaboaaGreatVL21
import Derived.Deep.Slices
import Derived.ChangeSame
import Derived.WideShapes
import Derived.ArgAppend
import Derived.OwnWalk
import Derived.Tactics
set_option linter.unusedVariables false
set_option linter.unusedSimpArgs false
namespace Go.VL
open Go Go.ChangeShapes Go.WideShapes Go.Deep
open Go.RowKit (Below)

/-- A row of cells has the make that its type tells. -/
def WT (C : Ctx) : Nat → TypeId → List PV → Prop
 | 0, _, _ => False
 | n + 1, t, cs => match C.T t with
  | some ti => (match ti.k with
   | .int k => ∃ x, cs = [.int k x] ∧ (Lit.int k x).wf = true
   | .bool => ∃ b, cs = [.bool b]
   | .str => ∃ s, cs = [.str s] ∧ s.size ≤ reachBytes
   | .struct fs => cs.length = ti.size ∧ ∀ f ∈ fs, WT C n f.2.1 ((cs.drop f.1).take f.2.2)
   | .slice e => ∃ sz rows, (C.T e).map (·.size) = some sz ∧ cs = [.sl .no sz rows] ∧ (rows.length ≤ maxLen ∧ ∀ te, C.T e = some te → rows.length * te.bytes ≤ reachBytes) ∧ ∀ r ∈ rows, WT C n e r
   | _ => False)
  | none => False

def tiles : Nat → List (Nat × TypeId × Nat) → Option Nat
 | o, [] => some o
 | o, f :: fs => if f.1 = o then tiles (o + f.2.2) fs else none

def plainT (T : TypeId → Option TI) : Nat → TypeId → Bool
 | 0, _ => false
 | n + 1, t => match T t with
  | some ti => (match ti.k with
   | .int _ => true
   | .bool => true
   | .str => true
   | .struct fs => decide (tiles 0 fs = some ti.size) && fs.all fun f => plainT T n f.2.1 && decide ((T f.2.1).map (·.size) = some f.2.2)
   | .slice e => plainT T n e && (match T e with | some ei => decide (0 < ei.size) | none => false)
   | _ => false)
  | none => false

section
variable {C : Ctx} {H : Type} {enc : TypeId × Value → H} {w : World} {base : Nat} {spare : Nat → Bool} {held : Bool} {g : Gh}

/-- Plain values for a list of cells. -/
def Reads (g : Gh) (w : World) (ps : List PV) (cs : List Value) : Prop :=
 ps.length = cs.length ∧ ∀ (k : Nat) v u, ps[k]? = some v → cs[k]? = some u → Rel g w v u ∧ u.oneCell' = true

theorem Reads.one {v : PV} {u : Value} (h : Rel g w v u) (h1 : u.oneCell' = true) : Reads g w [v] [u] := by
 refine ⟨rfl, fun k v' u' hv hu => ?_⟩
 cases k with
 | zero => simp at hv hu; subst hv; subst hu; exact ⟨h, h1⟩
 | succ k => simp at hv

theorem tiles_le : ∀ (fs : List (Nat × TypeId × Nat)) (o e : Nat), tiles o fs = some e → o ≤ e ∧ ∀ f ∈ fs, o ≤ f.1 ∧ f.1 + f.2.2 ≤ e
 | [], o, e, h => by simp [tiles] at h; subst h; exact ⟨Nat.le_refl _, by simp⟩
 | f :: fs, o, e, h => by
  unfold tiles at h
  split at h
  ·rename_i ho
   obtain ⟨h1, h2⟩ := tiles_le fs _ _ h
   refine ⟨by omega, fun f' hf => ?_⟩
   rcases List.mem_cons.1 hf with rfl | hf
   ·omega
   ·have := h2 f' hf
    omega
  ·cases h

theorem reads_fields {n : Nat} {cs : List Value} : ∀ (fs : List (Nat × TypeId × Nat)) (o e : Nat), tiles o fs = some e → e ≤ cs.length →
  (∀ f ∈ fs, ∃ ps, Reads g w ps ((cs.drop f.1).take f.2.2) ∧ WT C n f.2.1 ps) →
  ∃ ps : List PV, ps.length = e - o ∧ (∀ (k : Nat) v u, ps[k]? = some v → cs[o + k]? = some u → Rel g w v u ∧ u.oneCell' = true) ∧ ∀ f ∈ fs, WT C n f.2.1 ((ps.drop (f.1 - o)).take f.2.2)
 | [], o, e, h, _, _ => by
  simp [tiles] at h
  subst h
  exact ⟨[], by simp, by simp, by simp⟩
 | f :: fs, o, e, h, he, hf => by
  unfold tiles at h
  split at h
  ·rename_i ho
   obtain ⟨h1, h2⟩ := tiles_le fs _ _ h
   obtain ⟨pf, ⟨l1, r1⟩, w1⟩ := hf f (by simp)
   have hl : pf.length = f.2.2 := by rw [l1]; simp; omega
   obtain ⟨pr, l2, r2, w2⟩ := reads_fields fs _ _ h he (fun f' hf' => hf f' (List.mem_cons_of_mem _ hf'))
   refine ⟨pf ++ pr, by simp; omega, fun k v u hv hu => ?_, fun f' hf' => ?_⟩
   ·by_cases hk : k < f.2.2
    ·rw [List.getElem?_append_left (by omega)] at hv
     refine r1 k v u hv ?_
     rw [List.getElem?_take, if_pos hk, List.getElem?_drop, ho]
     exact hu
    ·rw [List.getElem?_append_right (by omega), hl] at hv
     refine r2 _ v u hv ?_
     rw [show o + f.2.2 + (k - f.2.2) = o + k by omega]
     exact hu
   ·rcases List.mem_cons.1 hf' with rfl | hf'
    ·rw [ho, Nat.sub_self, List.drop_zero, List.take_append_of_le_length (by omega), List.take_of_length_le (by omega)]
     exact w1
    ·have := w2 f' hf'
     have hle := (h2 f' hf').1
     rw [List.drop_append, List.drop_of_length_le (by omega), List.nil_append, hl, show f'.1 - o - f.2.2 = f'.1 - (o + f.2.2) by omega]
     exact this
  ·cases h

theorem cellsOf_of {t : TypeId} {ti : TI} (h : C.T t = some ti) : C.P.cellsOf t = ti.size := by
 obtain ⟨i, z, hi, hs, _⟩ := (C.hT _ _ h).info
 simp [Program.cellsOf, hi, hs]

theorem reads_sl {sz len cap : Nat} {a : Addr} {e : TypeId} {n : Nat} (hsz : C.P.cellsOf e = sz) (h0 : 0 < sz) (hl : len ≤ cap) (hg : ∀ b o, b < w.heap.size → g.lab b o = .frozen)
  (h : ∀ i, i < len → ∃ cs' ps, w.cells? base (a.add (i * C.P.cellsOf e)) (C.P.cellsOf e) = some cs' ∧ Reads g w ps cs' ∧ WT C n e ps) :
  ∃ rows : List (List PV), rows.length = len ∧ Rel g w (.sl .no sz rows) (.slice (some a) len cap) ∧ ∀ r ∈ rows, WT C n e r := by
 obtain ⟨f, hf⟩ := choose_lt (α := List PV) (p := fun i ps => ∃ cs', w.cells? base (a.add (i * C.P.cellsOf e)) (C.P.cellsOf e) = some cs' ∧ Reads g w ps cs' ∧ WT C n e ps) (fun i hi => by
  obtain ⟨cs', ps, h1, h2⟩ := h i hi
  exact ⟨ps, cs', h1, h2⟩)
 have hlen : ((List.range len).map f).length = len := by simp
 refine ⟨(List.range len).map f, hlen, ?_, fun r hr => ?_⟩
 ·obtain ⟨b, o, sp⟩ := a
  by_cases hz : len = 0
  ·subst hz
   have := @Rel.sl g w .no sz [] b o cap sp (fun _ _ => Go.undef) (by simp) (by simp) (by simp) (by simp) (.inl rfl)
   simpa using this
  ·have hsp : sp = none := by
    obtain ⟨cs', h1, _⟩ := hf 0 (by omega)
    obtain ⟨_, hcl, hat⟩ := World.cells?_some h1
    have h3 := hat 0 (by omega)
    rw [List.getElem?_eq_getElem (by omega)] at h3
    simp only [Nat.zero_mul, Addr.add, if_true] at h3
    unfold World.cell? at h3
    split at h3
    ·split at h3
     ·cases h3
     ·rename_i hs
      simpa using hs
    ·cases h3
   subst hsp
   have hrow : ∀ (j : Nat) (c : List PV), ((List.range len).map f)[j]? = some c → j < len ∧ c = f j := by
    intro j c hj
    simp only [List.getElem?_map, Option.map_eq_some_iff] at hj
    obtain ⟨i, hi, rfl⟩ := hj
    obtain ⟨hlt, he⟩ := List.getElem?_eq_some_iff.1 hi
    simp at hlt he
    subst he
    exact ⟨hlt, rfl⟩
   have := @Rel.rows g w .no sz ((List.range len).map f) b o cap (by omega) (fun j c hj => by
    obtain ⟨hlt, rfl⟩ := hrow j c hj
    obtain ⟨cs', h1, h2, _⟩ := hf j hlt
    obtain ⟨_, hcl, _⟩ := World.cells?_some h1
    rw [h2.1, hcl, hsz]) (fun j c k v hj hk => by
    obtain ⟨hlt, rfl⟩ := hrow j c hj
    obtain ⟨cs', h1, h2, _⟩ := hf j hlt
    obtain ⟨_, hcl, hat⟩ := World.cells?_some h1
    have hkl : k < cs'.length := by rw [← h2.1]; exact (List.getElem?_eq_some_iff.1 hk).1
    have h3 := hat k (by omega)
    rw [hsz, Addr.add_lit, Addr.add_lit, Nat.add_assoc, List.getElem?_eq_getElem hkl] at h3
    obtain ⟨h4, h5⟩ := h2.2 k v _ hk (List.getElem?_eq_getElem hkl)
    exact ⟨hg _ _ (World.block_lt_of_cell? w _ h3), _, h3, h5, h4⟩)
   rwa [hlen] at this
 ·obtain ⟨i, hi, rfl⟩ := List.mem_map.1 hr
  obtain ⟨_, _, _, h3⟩ := hf i (by simpa using hi)
  exact h3

theorem weightsEach_mem {P : Program} : ∀ {ts : List TypeId} {ds : List (DataW H)} {j : Nat} {t : TypeId} {d : DataW H} {y : Nat}, ts[j]? = some t → ds[j]? = some d → y ∈ d.weights P t → y ∈ DataW.weightsEach P ts ds
 | [], _, _, _, _, _, h, _, _ => by simp at h
 | _ :: _, [], _, _, _, _, _, h, _ => by simp at h
 | t :: ts, d :: ds, 0, _, _, y, h1, h2, hy => by
  simp at h1 h2
  subst h1; subst h2
  unfold DataW.weightsEach
  exact List.mem_append_left _ hy
 | t :: ts, d :: ds, j + 1, _, _, y, h1, h2, hy => by
  unfold DataW.weightsEach
  exact List.mem_append_right _ (weightsEach_mem (by simpa using h1) (by simpa using h2) hy)
theorem weightsAll_mem {P : Program} {e : TypeId} : ∀ {ds : List (DataW H)} {d : DataW H} {y : Nat}, d ∈ ds → y ∈ d.weights P e → y ∈ DataW.weightsAll P e ds
 | [], _, _, h, _ => by simp at h
 | d :: ds, d', y, h, hy => by
  unfold DataW.weightsAll
  rcases List.mem_cons.1 h with rfl | h
  ·exact List.mem_append_left _ hy
  ·exact List.mem_append_right _ (weightsAll_mem h hy)

theorem trod_rel (hg : ∀ b o, b < w.heap.size → g.lab b o = .frozen) : ∀ (n fuel : Nat) (t : TypeId) (cs : List Value) (x : DataW H × List MemPlace), plainT C.T n t = true →
  DataW.trod enc C.P w base spare held fuel t cs = some x → (∀ y ∈ x.1.weights C.P t, y ≤ reachBytes) → ∃ ps, Reads g w ps cs ∧ WT C n t ps := by
 intro n
 induction n with
 | zero => intro fuel t cs x hp; cases hp
 | succ n ih =>
  intro fuel t cs x hp h hw
  unfold plainT at hp
  unfold WT
  cases hT : C.T t with
  | none => rw [hT] at hp; cases hp
  | some ti =>
   rw [hT] at hp
   obtain ⟨d, hu, hk⟩ := (C.hT _ _ hT).und
   dsimp only at hp ⊢
   split at hp
   ·rename_i k hti
    rw [hti] at hk
    have hd : d = .int k := hk
    subst hd
    obtain ⟨y, rfl, _, hwf⟩ := DataW.trod_int hu h
    exact ⟨_, Reads.one (.int _ _) rfl, y, rfl, hwf⟩
   ·rename_i hti
    rw [hti] at hk
    have hd : d = .bool := hk
    subst hd
    obtain ⟨y, rfl, _⟩ := DataW.trod_bool hu h
    exact ⟨_, Reads.one (.bool _) rfl, y, rfl⟩
   ·rename_i hti
    rw [hti] at hk
    have hd : d = .string := hk
    subst hd
    obtain ⟨y, rfl, rfl, hs⟩ := DataW.trod_string hu h
    exact ⟨_, Reads.one (.str _) rfl, y, rfl, by have := hw y.data.toList.length (by simp [DataW.weights]); simpa using this⟩
   ·rename_i fs hti
    rw [hti] at hk
    obtain ⟨a, rfl, hm, hf⟩ := hk
    simp only [Bool.and_eq_true, decide_eq_true_eq, List.all_eq_true] at hp
    obtain ⟨htl, hall⟩ := hp
    obtain ⟨xs, n', _, rfl, hcl, hxl, hxs⟩ := DataW.trod_struct hu h
    rw [cellsOf_of hT] at hcl
    obtain ⟨ps, l1, r1, w1⟩ := reads_fields (g := g) (w := w) (n := n) (cs := cs) fs 0 ti.size htl (by omega) (fun f hfm => by
     obtain ⟨j, hj⟩ := List.mem_iff_getElem?.1 hfm
     have hlen : a.size = fs.length := by
      have := mapM_some_length hm
      simpa using this.symm
     have hja : j < a.size := by rw [hlen]; exact (List.getElem?_eq_some_iff.1 hj).1
     obtain ⟨i, hi, hfj⟩ := hf j _ (Array.getElem?_eq_getElem hja)
     rw [hj] at hfj
     injection hfj with hfj
     subst hfj
     have ht := hxs j _ (Array.getElem?_eq_getElem hja)
     obtain ⟨hp1, hp2⟩ := hall _ hfm
     have hc : C.P.cellsOf (a[j]).type = i.size := by simp [Program.cellsOf, hi]
     rw [hc, List.getElem?_eq_getElem (by omega)] at ht
     have hjx : j < xs.length := by rw [hxl]; exact hja
     refine ih _ _ _ _ hp1 ht fun y hy => hw y ?_
     unfold DataW.weights
     rw [hu]
     exact weightsEach_mem (j := j) (t := (a[j]).type) (d := (xs[j]).1) (by rw [List.getElem?_map, Array.getElem?_toList, Array.getElem?_eq_getElem hja]; rfl) (by rw [List.getElem?_map, List.getElem?_eq_getElem hjx]; rfl) hy)
    refine ⟨ps, ⟨by omega, fun k v u hv hu => r1 k v u hv (by rw [Nat.zero_add]; exact hu)⟩, by omega, fun f hfm => ?_⟩
    have := w1 f hfm
    rwa [Nat.sub_zero] at this
   ·rename_i e hti
    rw [hti] at hk
    have hd : d = .slice e := hk
    subst hd
    simp only [Bool.and_eq_true] at hp
    obtain ⟨hp1, hp2⟩ := hp
    split at hp2
    ·rename_i ei hei
     have h0 : 0 < ei.size := of_decide_eq_true hp2
     rcases open_slice hu h with ⟨rfl, _⟩ | ⟨a, len, cap, m, n', D, Pl, rfl, _, hl, hcm, hmm, rfl, hi⟩
     ·exact ⟨_, Reads.one (.slnil .no ei.size) rfl, _, _, by simp [hei], rfl, ⟨by simp, by simp⟩, by simp⟩
     ·have hlm : len ≤ m := by rw [hmm]; split <;> omega
      have hws : m * ei.bytes ≤ reachBytes ∧ ∀ i, i < len → ∀ y ∈ (D i).weights C.P e, y ≤ reachBytes := by
       obtain ⟨ii, _, hii, _, hib, _⟩ := (C.hT _ _ hei).info
       have hb : C.P.bytesOf e = ei.bytes := by simp [Program.bytesOf, hii, hib]
       unfold DataW.weights at hw
       rw [hu] at hw
       dsimp only at hw
       refine ⟨?_, fun i hi y hy => hw y ?_⟩
       ·have := hw _ (List.mem_cons_self ..)
        rw [hb] at this
        simp only [List.length_map, List.length_range] at this
        rwa [show len + (m - len) = m from by omega] at this
       ·refine List.mem_cons_of_mem _ (List.mem_append_left _ (weightsAll_mem (d := D i) ?_ hy))
        exact List.mem_map.2 ⟨i, List.mem_range.2 hi, rfl⟩
      obtain ⟨rows, r1, r2, r3⟩ := reads_sl (g := g) (w := w) (base := base) (n := n) (a := a) (cap := cap) (len := len) (cellsOf_of hei) h0 hl hg (fun i hil => by
       obtain ⟨cs', c1, c2⟩ := hi i (by omega)
       obtain ⟨ps, p1, p2⟩ := ih _ _ _ _ hp1 c2 (hws.2 i hil)
       exact ⟨cs', ps, c1, p1, p2⟩)
      exact ⟨_, Reads.one r2 rfl, _, rows, by simp [hei], rfl, ⟨by omega, fun te hte => by rw [hei] at hte; injection hte with hte; subst hte; rw [r1]; exact Nat.le_trans (Nat.mul_le_mul_right _ hlm) hws.1⟩, r3⟩
    ·cases hp2
   ·cases hp

def WTA (C : Ctx) (n : Nat) (t : TypeId) (p : PV) : Prop :=
 match C.T t with
 | some ti => (match ti.k with
  | .struct _ => ∃ cs, p = .agg cs ∧ WT C n t cs
  | _ => WT C n t [p])
 | none => False

theorem arg_rel (hg : ∀ b o, b < w.heap.size → g.lab b o = .frozen) {n : Nat} {t : TypeId} {r : Go.Reach} {b0 : Nat} {v : Value} {d : DataW H} {ps : List MemPlace} (hp : plainT C.T n t = true)
  (hv : Value.okWide C.P w r b0 t v) (h : DataW.Trod enc C.P w base spare held t v d ps) (hw : ∀ y ∈ d.weights C.P t, y ≤ reachBytes) : ∃ p, Rel g w p v ∧ p.bare = p ∧ WTA C n t p := by
 obtain ⟨fuel, hf⟩ := h
 obtain ⟨pl, h1, h2⟩ := trod_rel hg _ _ _ _ _ hp hf hw
 have h2' := h2
 unfold WTA
 cases n with
 | zero => cases hp
 | succ n =>
  unfold WT at h2
  cases hT : C.T t with
  | none => rw [hT] at h2; exact h2.elim
  | some ti =>
   rw [hT] at h2
   obtain ⟨d, hu, hk⟩ := (C.hT _ _ hT).und
   dsimp only at h2 ⊢
   split at h2
   ·rename_i k hti
    rw [hti] at hk
    have hd : d = .int k := hk
    subst hd
    obtain ⟨y, rfl⟩ := okWide_int hu hv
    obtain ⟨x, rfl, _⟩ := h2
    have := (h1.2 0 _ _ rfl rfl).1
    exact ⟨_, this, rfl, by rw [hti]; exact h2'⟩
   ·rename_i hti
    rw [hti] at hk
    have hd : d = .bool := hk
    subst hd
    obtain ⟨y, rfl⟩ := okWide_bool hu hv
    obtain ⟨x, rfl⟩ := h2
    exact ⟨_, (h1.2 0 _ _ rfl rfl).1, rfl, by rw [hti]; exact h2'⟩
   ·rename_i hti
    rw [hti] at hk
    have hd : d = .string := hk
    subst hd
    obtain ⟨y, rfl⟩ := okWide_string hu hv
    obtain ⟨x, rfl, _⟩ := h2
    exact ⟨_, (h1.2 0 _ _ rfl rfl).1, rfl, by rw [hti]; exact h2'⟩
   ·rename_i fs hti
    rw [hti] at hk
    obtain ⟨a, rfl, hm, _⟩ := hk
    obtain ⟨cs, rfl, _⟩ := okWide_struct hu hv
    have hcell : (Value.agg cs).cells = cs := by simp [Value.cells]
    rw [hcell] at h1
    refine ⟨.agg pl, .agg ?_ ?_ ?_, rfl, by rw [hti]; exact ⟨pl, rfl, h2'⟩⟩
    ·have := h1.1
     simpa using this
    ·intro k rv hrv
     have hlt : k < pl.length := by
      rw [h1.1]
      have := (Array.getElem?_eq_some_iff.1 hrv).1
      simpa using this
     exact (h1.2 k _ rv (List.getElem?_eq_getElem hlt) (by simpa using hrv)).2
    ·intro k p rv hpk hrv
     exact (h1.2 k p rv hpk (by simpa using hrv)).1
   ·rename_i e hti
    rw [hti] at hk
    have hd : d = .slice e := hk
    subst hd
    obtain ⟨a, l, c, rfl⟩ := okWide_slice hu hv
    obtain ⟨sz, rows, _, rfl, _⟩ := h2
    exact ⟨_, (h1.2 0 _ _ rfl rfl).1, rfl, by rw [hti]; exact h2'⟩
   ·exact h2.elim

/-- Labels for a world that is all given. -/
def gh0 (W : World) : Gh := ⟨fun b _ => if b < W.heap.size then .frozen else .free, fun _ => (0, 0), 0, fun _ => false⟩

theorem gh0_frozen {W : World} : ∀ b o, b < W.heap.size → (gh0 W).lab b o = .frozen := fun b o h => by simp [gh0, h]

theorem Fr.below {g' : Gh} {W W' : World} (h : Fr (gh0 W) g' W W') : Below W.heap.size W W' :=
 ⟨h.os, h.tape, h.output, h.size, fun k hk => h.block k hk fun o => by rw [gh0_frozen _ _ hk]; exact fun h => h⟩

theorem law_calls {P : Program} {f : FuncId} {ps : List PV} {rargs : Array Value} {W : World} {K : PV → Store → Prop} (h : PCalls P f ps (fun _ => none) K) (hl : ps.length = rargs.size)
  (hr : ∀ (k : Nat) p u, ps[k]? = some p → rargs[k]? = some u → Rel (gh0 W) W p u ∧ p.bare = p) :
  Calls P f rargs W fun e W' => ∃ rv v S' g', e = .returned rv ∧ K v S' ∧ Rel g' W' v rv ∧ Below W.heap.size W W' := by
 refine (h.2 (gh0 W) W rargs ⟨hl.symm, fun t ht => ?_, fun t ht => ?_, fun id cells hi => (by cases hi), fun b o hb => ?_⟩).mono fun e W' he => ?_
 ·have h1 : ps[t]? = some (ps[t]) := List.getElem?_eq_getElem ht
  have h2 : rargs[t]? = some (rargs[t]'(by omega)) := Array.getElem?_eq_getElem (by omega)
  obtain ⟨q1, q2⟩ := hr t _ _ h1 h2
  have e1 : argEnv ps t = ps[t] := by simp [argEnv, List.getD_eq_getElem?_getD, h1]
  have e2 : rargs.getD t Go.undef = rargs[t]'(by omega) := by simp [Array.getD_eq_getD_getElem?, h2]
  rw [e1, e2]
  exact Top.ofRel q1 q2
 ·simp [argEnv, List.getD_eq_getElem?_getD, List.getElem?_eq_none ht]
 ·simp only [gh0]
  rw [if_neg (by omega)]
 ·obtain ⟨rv, v, S', g', rfl, hK, hfr, ht, _⟩ := he
  exact ⟨rv, v, S', g', rfl, hK, ht.rel, hfr.below⟩

theorem law_true {P : Program} {f : FuncId} {ps : List PV} {rargs : Array Value} {W : World} (h : PCalls P f ps (fun _ => none) fun v _ => v = .bool true) (hl : ps.length = rargs.size)
  (hr : ∀ (k : Nat) p u, ps[k]? = some p → rargs[k]? = some u → Rel (gh0 W) W p u ∧ p.bare = p) :
  Calls P f rargs W fun e W' => e = .returned (.bool true) ∧ Below W.heap.size W W' := by
 refine (law_calls h hl hr).mono fun e W' ⟨rv, v, S', g', he, hv, hrel, hb⟩ => ?_
 subst hv
 cases hrel
 exact ⟨he, hb⟩
end
end Go.VL

/- VL, part 23: rows of zeros behind a nil slice. -/
namespace Go.VL
open Go

/-- Who takes values without flags takes them with flags. -/
theorem PCalls.ofBare {P : Program} {f : FuncId} {args : List PV} {S : Store} {K : PV → Store → Prop} (h : PCalls P f (args.map PV.bare) S K) : PCalls P f args S K := by
 refine ⟨h.1, fun g w rargs hst => h.2 g w rargs ?_⟩
 have hbu : PV.bare .undef = .undef := rfl
 have henv : ∀ t, argEnv (args.map PV.bare) t = (argEnv args t).bare := by
  intro t
  simp only [argEnv, List.getD_eq_getElem?_getD, List.getElem?_map]
  cases args[t]? <;> rfl
 exact ⟨by simpa using hst.size, fun t ht => by rw [henv]; exact (hst.slots t (by simpa using ht)).bare, fun t ht => by rw [henv, hst.beyond t (by simpa using ht)]; rfl, hst.objs, hst.new⟩
end Go.VL

/- VL, part 24: arrays of one's own that are given away, or lent. -/
namespace Go.VL
open Go

/-- The same value, where arrays of one's own count as what stands in them. -/
inductive Fz (Sf : Store) : PV → PV → Prop where
 | refl (v : PV) : Fz Sf v v
 | bare (v : PV) : Fz Sf v v.bare
 | arr {f : Fl} {id off len sz : Nat} {cells : List PV} {rows : List (List PV)} (hS : Sf id = some cells) (hlen : rows.length = len) (hl : ∀ (j : Nat) (c : List PV), rows[j]? = some c → c.length = sz)
   (g : Nat → Nat → PV) (hg : ∀ (j : Nat) (c : List PV) (k : Nat) (v : PV), rows[j]? = some c → c[k]? = some v → cells[off + (j * sz + k)]? = some (g j k))
   (hz : ∀ (j : Nat) (c : List PV) (k : Nat) (v : PV), rows[j]? = some c → c[k]? = some v → Fz Sf (g j k) v) : Fz Sf (.arr f id off len sz) (.sl .no sz rows)
 | sl {f : Fl} {sz : Nat} {rows rows' : List (List PV)} (hl : rows.length = rows'.length) (hc : ∀ (j : Nat) (c c' : List PV), rows[j]? = some c → rows'[j]? = some c' → c.length = c'.length)
   (hz : ∀ (j : Nat) (c c' : List PV) (k : Nat) (v v' : PV), rows[j]? = some c → rows'[j]? = some c' → c[k]? = some v → c'[k]? = some v' → Fz Sf v v') : Fz Sf (.sl f sz rows) (.sl .no sz rows')
 | ip {cs cs' : List PV} {off : Nat} (hl : cs.length = cs'.length) (hz : ∀ (k : Nat) (v v' : PV), cs[k]? = some v → cs'[k]? = some v' → Fz Sf v v') : Fz Sf (.ip cs off) (.ip cs' off)
 | agg {cs cs' : List PV} (hl : cs.length = cs'.length) (hz : ∀ (k : Nat) (v v' : PV), cs[k]? = some v → cs'[k]? = some v' → Fz Sf v v') : Fz Sf (.agg cs) (.agg cs')
 | tup {cs cs' : List PV} (hl : cs.length = cs'.length) (hz : ∀ (k : Nat) (v v' : PV), cs[k]? = some v → cs'[k]? = some v' → Fz Sf v v') : Fz Sf (.tup cs) (.tup cs')

theorem get_of_len {α β : Type} {l : List α} {m : List β} (h : l.length = m.length) {k : Nat} {y : β} (hy : m[k]? = some y) : ∃ x, l[k]? = some x :=
 ⟨_, List.getElem?_eq_getElem (by rw [h]; exact (List.getElem?_eq_some_iff.1 hy).1)⟩

theorem Fz.rel {Sf : Store} {g g1 : Gh} {w : World} (hfr : ∀ b o, g.lab b o = .frozen → g1.lab b o = .frozen) (hob : ∀ b o id, g.lab b o = .obj id → (Sf id).isSome = true → g1.lab b o = .frozen) (hloc : g1.loc = g.loc) (hn : g1.nxt = g.nxt) (hkd : g1.knd = g.knd)
  (hobj : ∀ id cells, Sf id = some cells → ObjOk g w id cells) {v v' : PV} (h : Fz Sf v v') : ∀ {rv : Value}, Rel g w v rv → Rel g1 w v' rv := by
 have same : ∀ {v : PV} {rv : Value}, Rel g w v rv → Rel g1 w v rv := fun h =>
  h.same hfr (fun _ _ _ _ hc => hc) (fun _ _ => by rw [hloc]) (by omega) (fun _ h => h) (fun _ _ => by rw [hkd])
 induction h with
 | refl v => exact same
 | bare v => exact fun h => (same h).bare
 | @arr f id off len sz cells rows hS hlen hl gg hg hz ih =>
  intro rv hr
  cases hr with
  | arr0 f id off sz a cap ha =>
   have hre : rows = [] := List.eq_nil_of_length_eq_zero hlen
   subst hre
   cases a with
   | none => rw [ha rfl]; exact .slnil _ _
   | some a =>
    obtain ⟨b, o, sp⟩ := a
    have := @Rel.sl g1 w .no sz [] b o cap sp (fun _ _ => Go.undef) (by simp) (by simp) (by simp) (by simp) (.inl rfl)
    simpa using this
  | @arr _ _ _ _ _ cap hid hcap hkn =>
   have hobj := hobj id cells hS
   have key : ∀ (j : Nat) (c : List PV) (k : Nat) (v : PV), rows[j]? = some c → c[k]? = some v → g1.lab (g.loc id).1 ((g.loc id).2 + off + (j * sz + k)) = .frozen ∧ ∃ u, w.cell? ⟨(g.loc id).1, (g.loc id).2 + off + (j * sz + k), none⟩ = some u ∧ u.oneCell' = true ∧ Rel g1 w v u := by
    intro j c k v hj hk
    obtain ⟨q1, q2, u, q3, q4, q5, _⟩ := hobj.cell hkn _ _ (hg j c k v hj hk)
    refine ⟨?_, u, ?_, q4, ih j c k v hj hk q5⟩
    ·rw [Nat.add_assoc]; exact hob _ _ _ q1 (by rw [hS]; rfl)
    ·rw [Nat.add_assoc]; exact q3
   have := @Rel.rows g1 w .no sz rows (g.loc id).1 ((g.loc id).2 + off) cap (by omega) hl key
   rwa [hlen] at this
 | @sl f sz rows rows' hl hc hz ih =>
  intro rv hr
  cases hr with
  | slnil =>
   have : rows' = [] := List.eq_nil_of_length_eq_zero hl.symm
   subst this
   exact .slnil _ _
  | @sl _ _ _ b o cap sp fv h1 h2 h3 h4 h5 =>
   have := @Rel.sl g1 w .no sz rows' b o cap sp fv (by omega) (fun j c' hj => by
    obtain ⟨c, hc1⟩ := get_of_len hl hj
    rw [← hc j c c' hc1 hj]
    exact h2 j c hc1) (fun j c' k v' hj hk => by
    obtain ⟨c, hc1⟩ := get_of_len hl hj
    obtain ⟨v, hv1⟩ := get_of_len (hc j c c' hc1 hj) hk
    obtain ⟨q1, q2, q3⟩ := h3 j c k v hc1 hv1
    exact ⟨hfr _ _ q1, q2, q3⟩) (fun j c' k v' hj hk => by
    obtain ⟨c, hc1⟩ := get_of_len hl hj
    obtain ⟨v, hv1⟩ := get_of_len (hc j c c' hc1 hj) hk
    exact ih j c c' k v v' hc1 hj hv1 hk (h4 j c k v hc1 hv1)) (h5.elim (fun h => .inl (List.eq_nil_of_length_eq_zero (by rw [← hl, h]; rfl))) .inr)
   rwa [hl]
 | @ip cs cs' off hl hz ih =>
  intro rv hr
  cases hr with
  | ip fv h3 h4 =>
   exact .ip fv (fun k v' hk => by
    obtain ⟨v, hv1⟩ := get_of_len hl hk
    obtain ⟨q1, q2, q3⟩ := h3 k v hv1
    exact ⟨hfr _ _ q1, q2, q3⟩) (fun k v' hk => by
    obtain ⟨v, hv1⟩ := get_of_len hl hk
    exact ih k v v' hv1 hk (h4 k v hv1))
 | @agg cs cs' hl hz ih =>
  intro rv hr
  cases hr with
  | agg h1 h2 h3 =>
   exact .agg (by omega) h2 (fun k v' rv hk hrv => by
    obtain ⟨v, hv1⟩ := get_of_len hl hk
    exact ih k v v' hv1 hk (h3 k v rv hv1 hrv))
 | @tup cs cs' hl hz ih =>
  intro rv hr
  cases hr with
  | tup h1 h3 =>
   exact .tup (by omega) (fun k v' rv hk hrv => by
    obtain ⟨v, hv1⟩ := get_of_len hl hk
    exact ih k v v' hv1 hk (h3 k v rv hv1 hrv))

/-! ### pointers whose places are known -/
/-- The same value, with less known of its place. -/
inductive Un : PV → PV → Prop where
 | refl (v : PV) : Un v v
 | nq (b o : Nat) (c : List PV) : Un (.nq b o c) (.np c)
theorem Un.top {g : Gh} {w : World} {t : Nat} {v v' : PV} {rv : Value} (h : Un v v') (hr : Top g w t v rv) : Top g w t v' rv := by
 cases h with
 | refl => exact hr
 | nq b o c =>
  obtain ⟨h1, _⟩ := hr
  cases h1 with
  | nq f hb h hr => exact ⟨.np f hb h hr, by simp [Tail]⟩
/-- simp leaves a loop's invariant alone. -/
theorem loopK_congr {I : Env → Store → Prop} {m : Env → Store → Nat} {k : Nat} {Q : Post} {px : PExit} {e e' : Env} {S : Store} (h : e = e') : loopK I m k Q px e S = loopK I m k Q px e' S := by rw [h]
attribute [congr] loopK_congr
/-- What a slot counts. -/
def iv : PV → Nat
 | .int _ k => k.toNat
 | _ => 0
theorem iv_int {k : IntKind} {z : Int} : iv (.int k z) = z.toNat := rfl
attribute [go_sem] iv_int
/-- A loop whose body is walked with what is around it out of sight. -/
theorem vloop {C : Ctx} {X : Fx} {c : Code} {Q : Post} {e : Env} {S : Store} (I : Env → Store → Prop) (m : Env → Store → Nat) (h0 : I e S)
  (h : ∀ (J : Env → Store → Prop) (M : Env → Store → Nat) (Q' : Post), (∀ e S, I e S → J e S) → (∀ e S, M e S = m e S) → (∀ px e S, Q px e S → Q' px e S) → ∀ e S, I e S → vwp C X c (loopK J M (m e S) Q') e S) : vwp C X (.loop c) Q e S :=
 ⟨I, m, h0, h I m Q (fun _ _ h => h) (fun _ _ => rfl) (fun _ _ _ h => h)⟩
theorem vnext {I J : Env → Store → Prop} {m M : Env → Store → Nat} {k : Nat} {Q : Post} {e : Env} {S : Store} (hJ : ∀ e S, I e S → J e S) (hM : ∀ e S, M e S = m e S) (S' : Store) (hs : ∀ id c, S' id = some c → S id = some c) (hI : I e S') (hm : m e S' < k) : loopK J M k Q .normal e S :=
 ⟨S', hs, hJ _ _ hI, by rw [hM]; exact hm⟩
theorem nat0 : ((0 : Nat) : Int) = 0 := rfl
attribute [go_sem] nat0
theorem x_pb_or {k : IntKind} {a b : Int} : pbin .or (.int k a) (.int k b) = some (.int k (k.wrap (BitVec.ofInt k.bits a ||| BitVec.ofInt k.bits b).toNat)) := by simp [pbin]
attribute [go_sem] x_pb_or
end Go.VL
