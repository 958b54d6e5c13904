/- Views: slices.Delete of tables: one table less, in place. -/
import Derived.Test.YtdioedabjaaboaaGreatYM
import Derived.WalkKit
import Derived.Deep.LoopGhost
import Derived.Deep.RegionLaw
import Derived.Lib.SliceRun
import Derived.Deep.MidRow
import Derived.Shelf.RegionOpenPlain
set_option linter.unusedVariables false
set_option linter.unusedSimpArgs false
namespace Go.Proofs
open Go.RowKit Go.Lib
namespace YtdioedabjaaboaaGreat.V
open Go Go.VL

theorem zeroCells_one (zs : Array Value) : (Builtin.zeroCells zs 1).toList = zs.toList := by
 simp [Builtin.zeroCells]
 apply List.ext_getElem
 ·simp
 ·intro i h1 h2
  simp at h1 h2
  simp [Nat.mod_eq_of_lt h2, getElem!_pos zs i h2]
theorem run_clear_row {P : Program} (w : World) (t e ty : TypeId) (z : Value) (ht : P.underlying t = some (.slice e)) (hv : ∀ w, (zeroValue e).run P w = .ok z w) (h1 : ∀ v ∈ z.cells.toList, v.oneCell' = true) (b o c : Nat)
  (hc : ∀ j, j < z.cells.toList.length → (w.cell? ⟨b, o + j, none⟩).isSome = true) (hf : ∀ j, j < z.cells.toList.length → w.frozen? ⟨b, o + j, none⟩ = false) :
  (Builtin.clear_ #[t] ty #[.slice (some ⟨b, o, none⟩) 1 c]).run P w = .ok (.tuple #[]) (w.setCells b o z.cells.toList) := by
 have hst := run_storeCells_cells (P := P) b o z.cells.toList 0 w (by simpa using hc) (by simpa using hf) h1
 simp only [Nat.add_zero] at hst
 simp [Builtin.clear_, run_underlying ht, hv, zeroCells_one, hst]
def zT : List Value := [.string ⟨#[]⟩, .int .i64 0, .string ⟨#[]⟩, .string ⟨#[]⟩, .map none]
set_option maxHeartbeats 4000000 in
set_option maxRecDepth 1000000 in
theorem delete_raw (blk off cap n i j : Nat) (hij : j = i + 1) (w : World) (hi : i < n) (hcap : n ≤ cap) (vals : List Value) (hv : vals.length = n * 5)
  (hget : ∀ k v, vals[k]? = some v → w.cell? ⟨blk, off + k, none⟩ = some v) (hfz : ∀ k, k < n * 5 → w.frozen? ⟨blk, off + k, none⟩ = false) (hone : ∀ v ∈ vals, v.oneCell' = true) :
  Calls Tryz.prog 91 #[.slice (some ⟨blk, off, none⟩) n cap, .int .i64 i, .int .i64 j] w fun e w' => e = .returned (.slice (some ⟨blk, off, none⟩) (n - 1) cap) ∧ w' = (w.drew.setCells blk (off + i * 5) (vals.drop (j * 5))).setCells blk (off + (n - 1) * 5) zT := by
 obtain ⟨news, hnews⟩ : ∃ news, news = vals.drop (j * 5) := ⟨_, rfl⟩
 have hlen : news.length = (n - j) * 5 := by rw [hnews, List.length_drop, hv]; omega
 obtain ⟨A, hA, hsrc⟩ : ∃ A : Addr, (if cap = j then (some (⟨blk, off, none⟩ : Addr)) else some ⟨blk, off + j * 5, none⟩) = some A ∧ Hid (∀ t u, news[t]? = some u → w.drew.cell? (A.add t) = some u) := by
  by_cases h : cap = j
  ·refine ⟨⟨blk, off, none⟩, by simp [h], fun t u hu => ?_⟩
   have h0 : news.length = 0 := by rw [hlen]; omega
   rw [List.length_eq_zero_iff.1 h0] at hu
   simp at hu
  ·refine ⟨⟨blk, off + j * 5, none⟩, by simp [h], fun t u hu => ?_⟩
   rw [hnews, List.getElem?_drop] at hu
   rw [Addr.add_lit, Nat.add_assoc]
   exact hget _ _ hu
 have hsome : ∀ k, k < n * 5 → (w.cell? ⟨blk, off + k, none⟩).isSome = true := fun k hk => by
  obtain ⟨v, hv1⟩ : ∃ v, vals[k]? = some v := ⟨vals[k]'(by omega), List.getElem?_eq_getElem _⟩
  rw [hget k v hv1]; rfl
 have s1 : Hid (news.length = (n - j) * 5) := hlen
 have s2 : Hid (∀ u ∈ news, u.oneCell' = true) := fun u hu => hone u (by rw [hnews] at hu; exact List.mem_of_mem_drop hu)
 have s3 : Hid (∀ t, t < news.length → (w.drew.cell? ⟨blk, off + i * 5 + t, none⟩).isSome = true ∧ w.drew.frozen? ⟨blk, off + i * 5 + t, none⟩ = false) := by
  intro t ht
  rw [hlen] at ht
  rw [Nat.add_assoc]
  exact ⟨hsome _ (by omega), hfz _ (by omega)⟩
 obtain ⟨W1, hW1⟩ : ∃ W1, W1 = w.drew.setCells blk (off + i * 5) news := ⟨_, rfl⟩
 have hcl : ∀ ty, (Builtin.clear_ #[114] ty #[.slice (some ⟨blk, off + (i + (n - j)) * 5, none⟩) (n - (i + (n - j))) (cap - (i + (n - j)))]).run Tryz.prog W1 = .ok (.tuple #[]) (W1.setCells blk (off + (i + (n - j)) * 5) zT) := by
  intro ty
  have e1 : n - (i + (n - j)) = 1 := by omega
  have e2 : i + (n - j) = n - 1 := by omega
  rw [e1, e2]
  have hz : ∀ w, (zeroValue 88).run Tryz.prog w = .ok (.agg zT.toArray) w := Tryz.zeroValue88
  refine run_clear_row W1 _ _ ty (.agg zT.toArray) Tryz.underlying114 hz ?_ blk _ _ ?_ ?_
  ·intro v hv
   have : v ∈ zT := by simpa [Value.cells] using hv
   unfold zT at this
   simp only [List.mem_cons, List.not_mem_nil, or_false] at this
   rcases this with rfl | rfl | rfl | rfl | rfl <;> rfl
  ·intro q hq
   have hq5 : q < 5 := hq
   rw [hW1]
   refine World.isSome_setCells _ _ _ _ _ ?_
   rw [Nat.add_assoc]
   exact hsome _ (by omega)
  ·intro q hq
   have hq5 : q < 5 := hq
   rw [hW1, World.frozen?_setCells, Nat.add_assoc]
   exact hfz _ (by omega)
 have hW : Hid (W1 = w.drew.setCells blk (off + i * 5) news) := hW1
 have hic : i ≤ cap := by omega
 have hjc : j ≤ cap := by omega
 obtain ⟨i0, hi0, _, hz1, _⟩ := info_parts (P := Tryz.prog) (e := 88) (z := .agg zT.toArray) (size := 5) (bytes := 64) (by kernel_rfl)
 have mixed : Tryz.prog.follows .mixedOrders = true := mixed
 have hlt : i < j := by omega
 have hjn : j ≤ n := by omega
 have hji : Hid (j = i + 1) := hij
 have hnn : Hid (news = vals.drop (j * 5)) := hnews
 clear hW1 hget hlen hij hnews
 go_enter Tryz.func91, Tryz.ntmps91
 go_wp2_with fail
 go_region_law_o (refine step_append_room rfl (.tmp 22) (.tmp 25) 114 rfl 88 i0 5 Tryz.underlying114 hi0 hz1 blk off i cap (by simp [Act.eval, Act.put]) A (n - j) (cap - j) news (by simp [Act.eval, Act.put, hA]) s1.out hsrc.out s2.out (by omega) s3.out ?_; rw [← hW.out])
 go_wp2
 go_ret
 have hj : j = i + 1 := hji
 have hnw : news = vals.drop (j * 5) := hnn
 have hw1 : W1 = w.drew.setCells blk (off + i * 5) news := hW
 have e2 : i + (n - j) = n - 1 := by omega
 refine ⟨by rw [e2]; rfl, ?_⟩
 rw [hw1, hnw, e2]
def cellsTs (T : WT) : List PV := bareAll (encTs T)
theorem cellsTs_cons (t : WT) (u : Wv × Nat) : cellsTs (u :: t) = .str u.1.name :: .int .i64 u.1.kind :: .str u.1.field :: .str u.1.of_ :: .mref u.2 :: cellsTs t := by
 have : encTs (u :: t) = encT u.1 u.2 :: encTs t := rfl
 unfold cellsTs
 rw [this, bareAll_cons]
 rfl
theorem cellsTs_len : ∀ T : WT, (cellsTs T).length = T.length * 5
 | [] => rfl
 | u :: T => by rw [cellsTs_cons]; simp only [List.length_cons]; rw [cellsTs_len T]; omega
theorem cellsTs_app (a b : WT) : cellsTs (a ++ b) = cellsTs a ++ cellsTs b := by
 induction a with
 | nil => rfl
 | cons u a ih => rw [List.cons_append, cellsTs_cons, cellsTs_cons, ih]; rfl
theorem cellsTs_get : ∀ (T : WT) (j : Nat) (c : List PV) (k : Nat) (v : PV), (encTs T)[j]? = some c → c[k]? = some v → (cellsTs T)[j * 5 + k]? = some v
 | [], j, c, k, v, h, _ => by simp [encTs] at h
 | u :: T, 0, c, k, v, h, h2 => by
  simp only [encTs, List.map_cons, List.getElem?_cons_zero, Option.some.injEq] at h
  subst h
  rw [cellsTs_cons, Nat.zero_mul, Nat.zero_add]
  have hk : k < 5 := (List.getElem?_eq_some_iff.1 h2).1
  match k, hk with
  | 0, _ => exact h2
  | 1, _ => exact h2
  | 2, _ => exact h2
  | 3, _ => exact h2
  | 4, _ => exact h2
 | u :: T, j + 1, c, k, v, h, h2 => by
  rw [cellsTs_cons, show (j + 1) * 5 + k = j * 5 + k + 5 by omega]
  simp only [List.getElem?_cons_succ]
  exact cellsTs_get T j c k v (by simpa [encTs] using h) h2
theorem cellsTs_row {T : WT} : ∀ v ∈ cellsTs T, (∃ s, v = .str s) ∨ (∃ n, v = .int .i64 n) ∨ ∃ g, v = .mref g := by
 induction T with
 | nil => intro v hv; cases hv
 | cons u T ih =>
  intro v hv
  rw [cellsTs_cons] at hv
  simp only [List.mem_cons] at hv
  rcases hv with rfl | rfl | rfl | rfl | rfl | hv
  ·exact .inl ⟨_, rfl⟩
  ·exact .inr (.inl ⟨_, rfl⟩)
  ·exact .inl ⟨_, rfl⟩
  ·exact .inl ⟨_, rfl⟩
  ·exact .inr (.inr ⟨_, rfl⟩)
  ·exact ih v hv
def zCells : List PV := [.str ⟨#[]⟩, .int .i64 0, .str ⟨#[]⟩, .str ⟨#[]⟩, .nilm]
theorem splice_del (T : WT) (i : Nat) (hi : i < T.length) : psplice (psplice (cellsTs T) (i * 5) ((cellsTs T).drop ((i + 1) * 5))) ((T.length - 1) * 5) zCells = cellsTs (T.eraseIdx i) ++ zCells := by
 have hT : cellsTs T = cellsTs (T.take i) ++ (cellsTs [T[i]] ++ cellsTs (T.drop (i + 1))) := by
  rw [← cellsTs_app, ← cellsTs_app]
  congr 1
  rw [List.singleton_append, ← List.drop_eq_getElem_cons hi, List.take_append_drop]
 have l1 : (cellsTs (T.take i)).length = i * 5 := by rw [cellsTs_len, List.length_take]; congr 1; omega
 have l2 : (cellsTs [T[i]]).length = 5 := cellsTs_len _
 have l3 : (cellsTs (T.drop (i + 1))).length = (T.length - (i + 1)) * 5 := by rw [cellsTs_len, List.length_drop]
 have d1 : (cellsTs T).drop ((i + 1) * 5) = cellsTs (T.drop (i + 1)) := by
  rw [hT, ← List.append_assoc, List.drop_left']
  rw [List.length_append, l1, l2]; omega
 have t1 : (cellsTs T).take (i * 5) = cellsTs (T.take i) := by rw [hT, List.take_left' l1]
 have he : cellsTs (T.eraseIdx i) = cellsTs (T.take i) ++ cellsTs (T.drop (i + 1)) := by rw [List.eraseIdx_eq_take_drop_succ, cellsTs_app]
 have hl : (cellsTs (T.eraseIdx i)).length = (T.length - 1) * 5 := by rw [he, List.length_append, l1, l3]; omega
 have h1 : psplice (cellsTs T) (i * 5) ((cellsTs T).drop ((i + 1) * 5)) = cellsTs (T.eraseIdx i) ++ (cellsTs T).drop (i * 5 + (cellsTs (T.drop (i + 1))).length) := by
  unfold psplice
  rw [d1, t1, he]
 rw [h1]
 unfold psplice
 rw [List.take_left' hl, List.drop_of_length_le, List.append_nil]
 rw [List.length_append, hl, List.length_drop, cellsTs_len, l3]
 have : zCells.length = 5 := rfl
 omega
set_option maxHeartbeats 2000000 in
theorem VDelete_arr (T : WT) (i : Nat) (hi : i < T.length) (hT : T.length ≤ 1000000) {S : Store} {id : Nat} (hS : S id = some (cellsTs T)) :
  PCalls Tryz.prog 91 [.arr .no id 0 T.length 5, .int .i64 i, .int .i64 (i + 1 : Nat)] S (fun v S' => v = .arr .no id 0 (T.length - 1) 5 ∧ S' = S.set id (some (cellsTs (T.eraseIdx i) ++ zCells))) := by
 refine ⟨⟨_, Tryz.func91, rfl, rfl⟩, fun g w rargs h => ?_⟩
 obtain ⟨a0, a1, a2, rfl⟩ : ∃ a0 a1 a2, rargs = #[a0, a1, a2] := by
  have := h.size
  match rargs, this with
  | ⟨[a, b, c]⟩, _ => exact ⟨a, b, c, rfl⟩
 have h0 := (h.slots 0 (by simp)).rel
 have h1 := (h.slots 1 (by simp)).rel
 have h2 := (h.slots 2 (by simp)).rel
 have z0 : argEnv [PV.arr .no id 0 T.length 5, .int .i64 i, .int .i64 (i + 1 : Nat)] 0 = .arr .no id 0 T.length 5 := rfl
 have z1 : argEnv [PV.arr .no id 0 T.length 5, .int .i64 i, .int .i64 (i + 1 : Nat)] 1 = .int .i64 i := rfl
 have z2 : argEnv [PV.arr .no id 0 T.length 5, .int .i64 i, .int .i64 (i + 1 : Nat)] 2 = .int .i64 (i + 1 : Nat) := rfl
 rw [z0] at h0
 rw [z1] at h1
 rw [z2] at h2
 simp only [Array.getD] at h0 h1 h2
 have h1' : a1 = .int .i64 i := by cases h1; rfl
 have h2' : a2 = .int .i64 (i + 1 : Nat) := by cases h2; rfl
 subst h1'
 subst h2'
 have hob := h.objs id _ hS
 obtain ⟨n, hn⟩ : ∃ n, n = T.length := ⟨_, rfl⟩
 rw [← hn] at h0
 obtain ⟨cap, hcap, hkn, rfl⟩ : ∃ cap, n ≤ cap ∧ g.knd id = false ∧ a0 = .slice (some ⟨(g.loc id).1, (g.loc id).2 + 0, none⟩) n cap := by
  generalize hm : n = m at h0
  cases h0 with
  | arr0 => omega
  | arr _ q1 q2 q3 => exact ⟨_, q2, q3, rfl⟩
 have hlen := cellsTs_len T
 have hcell := hob.cell hkn
 obtain ⟨vals, hvals⟩ : ∃ vals : List Value, vals = (List.range (n * 5)).map fun k => (w.cell? ⟨(g.loc id).1, (g.loc id).2 + k, none⟩).getD Go.undef := ⟨_, rfl⟩
 have hvl : vals.length = n * 5 := by rw [hvals]; simp
 have hat : ∀ k, k < n * 5 → ∃ v rv, (cellsTs T)[k]? = some v ∧ vals[k]? = some rv ∧ w.cell? ⟨(g.loc id).1, (g.loc id).2 + k, none⟩ = some rv ∧ rv.oneCell' = true ∧ Rel g w v rv ∧ w.frozen? ⟨(g.loc id).1, (g.loc id).2 + k, none⟩ = false := by
  intro k hk
  have hk2 : k < (cellsTs T).length := by rw [hlen]; omega
  obtain ⟨q1, q2, rv, q3, q4, q5, _⟩ := hcell k _ (List.getElem?_eq_getElem hk2)
  refine ⟨_, rv, List.getElem?_eq_getElem hk2, ?_, q3, q4, q5, q2⟩
  rw [hvals, List.getElem?_map, List.getElem?_range (by simpa using hk)]
  show some ((w.cell? _).getD _) = _
  rw [q3]; rfl
 have hraw := delete_raw (g.loc id).1 ((g.loc id).2 + 0) cap n i (i + 1) rfl w (by omega) hcap vals hvl
  (fun k v hv => by
   have hk : k < n * 5 := by rw [← hvl]; exact (List.getElem?_eq_some_iff.1 hv).1
   obtain ⟨_, rv, _, r2, r3, _⟩ := hat k hk
   rw [hv] at r2
   injection r2 with r2
   rw [r2]; exact r3)
  (fun k hk => by obtain ⟨_, _, _, _, _, _, _, r⟩ := hat k hk; exact r)
  (fun v hv => by
   obtain ⟨k, hk⟩ := List.mem_iff_getElem?.1 hv
   have hk2 : k < n * 5 := by rw [← hvl]; exact (List.getElem?_eq_some_iff.1 hk).1
   obtain ⟨_, rv, _, r2, _, r4, _⟩ := hat k hk2
   rw [hk] at r2
   injection r2 with r2
   rw [r2]; exact r4)
 refine hraw.mono ?_
 rintro e w' ⟨rfl, rfl⟩
 have q0 := Quiet.drew (w := w) h.new
 have st0 := h.quiet q0
 have hone : ∀ (k : Nat) (rv : Value), vals[k]? = some rv → rv.oneCell' = true := fun k rv hk => by
  have hk2 : k < n * 5 := by rw [← hvl]; exact (List.getElem?_eq_some_iff.1 hk).1
  obtain ⟨_, rv', _, r2, _, r4, _⟩ := hat k hk2
  rw [hk] at r2
  injection r2 with r2
  rw [r2]; exact r4
 have cr1 : CR g w.drew ((cellsTs T).drop ((i + 1) * 5)) (vals.drop ((i + 1) * 5)).toArray := by
  refine ⟨?_, fun k v rv hk hrv => ?_, fun k rv hk => ?_⟩
  ·rw [List.size_toArray, List.length_drop, List.length_drop, hlen, hvl, hn]
  ·simp only [List.getElem?_toArray, List.getElem?_drop] at hk hrv
   have hk2 : (i + 1) * 5 + k < n * 5 := by rw [← hvl]; exact (List.getElem?_eq_some_iff.1 hrv).1
   obtain ⟨v', rv', r1, r2, _, _, r5, _⟩ := hat _ hk2
   rw [hk] at r1
   rw [hrv] at r2
   injection r1 with r1
   injection r2 with r2
   rw [r1, r2]
   exact r5.mono q0.toFr
  ·simp only [List.getElem?_toArray, List.getElem?_drop] at hk
   exact hone _ _ hk
 have room : ∀ (g : Gh) (w : World) (id k : Nat) (v : PV) (rv : Value), v ∈ cellsTs T → RoomOk g w id k v rv := fun g w id k v rv hv => by
  rcases cellsTs_row v hv with ⟨s, rfl⟩ | ⟨s, rfl⟩ | ⟨s, rfl⟩ <;> trivial
 obtain ⟨_, _, g1, fr1, st1⟩ := obj_store (off := i * 5) st0 hS hkn cr1 (fun k v rv hk _ => room _ _ _ _ _ _ (List.mem_of_mem_drop (List.mem_of_getElem? hk))) (by rw [List.length_drop, hlen]; omega)
 have hloc : g1.loc id = g.loc id := fr1.loc id hob.lt
 have hkn1 : g1.knd id = false := by rw [fr1.knd id hob.lt]; exact hkn
 have hS1 : (S.set id (some (psplice (cellsTs T) (i * 5) ((cellsTs T).drop ((i + 1) * 5))))) id = some (psplice (cellsTs T) (i * 5) ((cellsTs T).drop ((i + 1) * 5))) := set_at _ _ _
 have cr2 : CR g1 (w.drew.setCells (g.loc id).1 ((g.loc id).2 + i * 5) (vals.drop ((i + 1) * 5)).toArray.toList) zCells zT.toArray := by
  refine ⟨rfl, fun k v rv hk hrv => ?_, fun k rv hk => ?_⟩
  ·have hk5 : k < 5 := (List.getElem?_eq_some_iff.1 hk).1
   match k, hk5 with
   | 0, _ => simp [zCells] at hk; simp [zT] at hrv; subst hk; subst hrv; exact .str _
   | 1, _ => simp [zCells] at hk; simp [zT] at hrv; subst hk; subst hrv; exact .int _ _
   | 2, _ => simp [zCells] at hk; simp [zT] at hrv; subst hk; subst hrv; exact .str _
   | 3, _ => simp [zCells] at hk; simp [zT] at hrv; subst hk; subst hrv; exact .str _
   | 4, _ => simp [zCells] at hk; simp [zT] at hrv; subst hk; subst hrv; exact .nilm
  ·have hm : rv ∈ zT.toArray := Array.mem_of_getElem? hk
   have : rv ∈ zT := by simpa using hm
   unfold zT at this
   simp only [List.mem_cons, List.not_mem_nil, or_false] at this
   rcases this with rfl | rfl | rfl | rfl | rfl <;> rfl
 obtain ⟨_, _, g2, fr2, st2⟩ := obj_store (off := (T.length - 1) * 5) (cs := zCells) (cells := psplice (cellsTs T) (i * 5) ((cellsTs T).drop ((i + 1) * 5))) st1 hS1 hkn1 cr2 (fun k v rv hk _ => by
  have hk5 : k < 5 := (List.getElem?_eq_some_iff.1 hk).1
  match k, hk5 with
  | 0, _ => simp [zCells] at hk; subst hk; trivial
  | 1, _ => simp [zCells] at hk; subst hk; trivial
  | 2, _ => simp [zCells] at hk; subst hk; trivial
  | 3, _ => simp [zCells] at hk; subst hk; trivial
  | 4, _ => simp [zCells] at hk; subst hk; trivial) (by
   have : zCells.length = 5 := rfl
   unfold psplice
   simp only [List.length_append, List.length_take, List.length_drop, hlen, this]
   omega)
 rw [set_set, splice_del T i hi] at st2
 rw [hloc] at fr2 st2
 subst hn
 simp only [List.toList_toArray] at fr1 fr2 st2
 rw [Nat.add_zero]
 have hl2 : g2.loc id = g.loc id := (fr2.loc id (Nat.lt_of_lt_of_le hob.lt fr1.nxt)).trans hloc
 refine ⟨_, _, _, g2, rfl, ⟨rfl, rfl⟩, q0.toFr.trans (fr1.trans fr2), ⟨?_, by simp [Tail]⟩, st2.objs, st2.new⟩
 have := @Rel.arr g2 ((w.drew.setCells (g.loc id).1 ((g.loc id).2 + i * 5) (vals.drop ((i + 1) * 5))).setCells (g.loc id).1 ((g.loc id).2 + (T.length - 1) * 5) zT) .no id 0 (T.length - 1) 5 cap (Nat.lt_of_lt_of_le hob.lt (Nat.le_trans fr1.nxt fr2.nxt)) (by omega) (by rw [fr2.knd id (Nat.lt_of_lt_of_le hob.lt fr1.nxt)]; exact hkn1)
 rw [hl2] at this
 exact this
/-- One table less. -/
theorem VDelete_calls (T : WT) (i : Nat) (hi : i < T.length) (hT : T.length ≤ 1000000) {S : Store} {id : Nat} (hS : S id = some (cellsTs T)) (K : PV → Store → Prop) (hK : K (.sl .no 5 (encTs (T.eraseIdx i))) (fun x => if x = id then none else S x)) :
  PCalls Tryz.prog 91 [.arr .no id 0 T.length 5, .int .i64 i, .int .i64 (i + 1 : Nat)] S K := by
 refine PCalls.freeze (VDelete_arr T i hi hT hS) ?_
 rintro v S' ⟨rfl, rfl⟩
 have hl : (encTs (T.eraseIdx i)).length = T.length - 1 := by rw [len_encTs, List.length_eraseIdx, if_pos hi]
 refine ⟨.sl .no 5 (encTs (T.eraseIdx i)), fun x => if x = id then some (cellsTs (T.eraseIdx i) ++ zCells) else none, ?_, ?_, rfl, ?_⟩
 ·intro x c hx
  dsimp only at hx
  split at hx
  ·rename_i h; subst h; rw [set_at]; exact hx
  ·cases hx
 ·refine .arr (cells := cellsTs (T.eraseIdx i) ++ zCells) (by rw [if_pos rfl]) hl ?_ (fun j k => ((encTs (T.eraseIdx i)).getD j []).getD k .undef) ?_ ?_
  ·intro j c hj
   have : c ∈ encTs (T.eraseIdx i) := List.mem_of_getElem? hj
   unfold encTs at this
   obtain ⟨u, _, rfl⟩ := List.mem_map.1 this
   rfl
  ·intro j c k v hj hk
   rw [Nat.zero_add, List.getElem?_append_left]
   ·rw [cellsTs_get _ j c k v hj hk]
    simp [List.getD_eq_getElem?_getD, hj, hk]
   ·exact (List.getElem?_eq_some_iff.1 (cellsTs_get _ j c k v hj hk)).1
  ·intro j c k v hj hk
   have : ((encTs (T.eraseIdx i)).getD j []).getD k .undef = v := by simp [List.getD_eq_getElem?_getD, hj, hk]
   rw [this]
   exact .refl v
 ·have he : (fun x => if ((if x = id then some (cellsTs (T.eraseIdx i) ++ zCells) else none : Option (List PV))).isSome = true then none else (S.set id (some (cellsTs (T.eraseIdx i) ++ zCells))) x) = fun x => if x = id then none else S x := by
   funext x
   by_cases hx : x = id
   ·simp [hx]
   ·simp [hx, Store.set]
  rw [he]
  exact hK
end YtdioedabjaaboaaGreat.V
end Go.Proofs
