/- Views: the sorted keys of a map: the kit's contracts, laid here, in the words of values by content. -/
import Derived.Test.YtdioedabjaaboaaGreatXH
import Derived.Shelf.SlIter.Nil
import Derived.Shelf.SortM.Plain
import Derived.Shelf.SortM.SortNone
import Derived.Ground.GgzProg
import Derived.Ground.SlgmProg
set_option linter.unusedVariables false
set_option linter.unusedSimpArgs false
namespace Go.Proofs
open Go.RowKit Go.Maps Go.Sort Go.Shelf
def Tryz.keysG_ren : Go.Shelf.Ren := ⟨fun | 7 => 81 | 10 => 108 | n => n, fun | 23 => 86 | 26 => 9 | 3 => 136 | 28 => 130 | 0 => 0 | 27 => 129 | 33 => 166 | 4 => 4 | n => n, fun | n => n⟩
theorem Tryz.keysG : Go.Proofs.SlLaysZ.n7 Tryz.prog Tryz.keysG_ren where
 mixed := by kernel_rfl
 f7 := ⟨"maps.Keys[map[string]tidemark/views.group,string,tidemark/views.group]", by decide, Tryz.func81.trans (congrArg some (by kernel_rfl))⟩
 f10 := ⟨"maps.Keys[map[string]tidemark/views.group,string,tidemark/views.group]$1", by decide, Tryz.func108.trans (congrArg some (by kernel_rfl))⟩
 t0 := Tryz.underlying0
 a0 := Tryz.isAgg0
 z0 := Tryz.sizeOf0
 v0 := Tryz.zeroValue0
 t4 := Tryz.underlying4
 a4 := Tryz.isAgg4
 z4 := Tryz.sizeOf4
 v4 := Tryz.zeroValue4
 t23 := Tryz.underlying86
 a23 := Tryz.isAgg86
 z23 := Tryz.sizeOf86
 v23 := Tryz.zeroValue86
 t26 := Tryz.underlying9
 a26 := Tryz.isAgg9
 z26 := Tryz.sizeOf9
 v26 := Tryz.zeroValue9
 t27 := Tryz.underlying129
 a27 := Tryz.isAgg129
 z27 := Tryz.sizeOf129
 v27 := Tryz.zeroValue129
 t28 := Tryz.underlying130
 a28 := Tryz.isAgg130
 z28 := Tryz.sizeOf130
 v28 := Tryz.zeroValue130
 t33 := Tryz.underlying166
 a33 := Tryz.isAgg166
 z33 := Tryz.sizeOf166
 v33 := Tryz.zeroValue166

def Tryz.keysB_ren : Go.Shelf.Ren := ⟨fun | 7 => 82 | 10 => 109 | n => n, fun | 23 => 132 | 26 => 9 | 3 => 4 | 28 => 130 | 0 => 0 | 27 => 129 | 33 => 166 | 4 => 4 | n => n, fun | n => n⟩
theorem Tryz.keysB : Go.Proofs.SlLaysZ.n7 Tryz.prog Tryz.keysB_ren where
 mixed := by kernel_rfl
 f7 := ⟨"maps.Keys[map[string]bool,string,bool]", by decide, Tryz.func82.trans (congrArg some (by kernel_rfl))⟩
 f10 := ⟨"maps.Keys[map[string]bool,string,bool]$1", by decide, Tryz.func109.trans (congrArg some (by kernel_rfl))⟩
 t0 := Tryz.underlying0
 a0 := Tryz.isAgg0
 z0 := Tryz.sizeOf0
 v0 := Tryz.zeroValue0
 t4 := Tryz.underlying4
 a4 := Tryz.isAgg4
 z4 := Tryz.sizeOf4
 v4 := Tryz.zeroValue4
 t23 := Tryz.underlying132
 a23 := Tryz.isAgg132
 z23 := Tryz.sizeOf132
 v23 := Tryz.zeroValue132
 t26 := Tryz.underlying9
 a26 := Tryz.isAgg9
 z26 := Tryz.sizeOf9
 v26 := Tryz.zeroValue9
 t27 := Tryz.underlying129
 a27 := Tryz.isAgg129
 z27 := Tryz.sizeOf129
 v27 := Tryz.zeroValue129
 t28 := Tryz.underlying130
 a28 := Tryz.isAgg130
 z28 := Tryz.sizeOf130
 v28 := Tryz.zeroValue130
 t33 := Tryz.underlying166
 a33 := Tryz.isAgg166
 z33 := Tryz.sizeOf166
 v33 := Tryz.zeroValue166

def Tryz.sortedS_ren : Go.Shelf.Ren := ⟨fun | 6 => 80 | 8 => 106 | 9 => 107 | 11 => 118 | 13 => 120 | 12 => 119 | 23 => 135 | 24 => 136 | 14 => 126 | 15 => 127 | 16 => 128 | 17 => 129 | 18 => 130 | 19 => 131 | 20 => 132 | 21 => 133 | 22 => 134 | 25 => 139 | 26 => 140 | 27 => 141 | 28 => 142 | 29 => 143 | 30 => 144 | 31 => 145 | n => n, fun | 26 => 9 | 28 => 130 | 24 => 22 | 0 => 0 | 3 => 3 | 37 => 36 | 48 => 186 | 50 => 159 | 4 => 4 | 40 => 178 | 39 => 177 | 45 => 183 | 5 => 5 | 9 => 9 | 51 => 189 | 55 => 193 | 57 => 195 | 58 => 196 | 33 => 166 | n => n, fun | n => n⟩
theorem Tryz.sortedS : Go.Proofs.SlLaysZ.n6 Tryz.prog Tryz.sortedS_ren where
 mixed := by kernel_rfl
 f6 := ⟨"slices.Sorted[string]", by decide, Tryz.func80.trans (congrArg some (by kernel_rfl))⟩
 f8 := ⟨"slices.Collect[string]", by decide, Tryz.func106.trans (congrArg some (by kernel_rfl))⟩
 f11 := ⟨"slices.AppendSeq[[]string,string]", by decide, Tryz.func118.trans (congrArg some (by kernel_rfl))⟩
 t0 := Tryz.underlying0
 a0 := Tryz.isAgg0
 z0 := Tryz.sizeOf0
 v0 := Tryz.zeroValue0
 t24 := Tryz.underlying22
 a24 := Tryz.isAgg22
 z24 := Tryz.sizeOf22
 v24 := Tryz.zeroValue22
 t26 := Tryz.underlying9
 a26 := Tryz.isAgg9
 z26 := Tryz.sizeOf9
 v26 := Tryz.zeroValue9
 t28 := Tryz.underlying130
 a28 := Tryz.isAgg130
 z28 := Tryz.sizeOf130
 v28 := Tryz.zeroValue130
 i26 := by kernel_rfl

def Tryz.sortS_ren : Go.Shelf.Ren := ⟨fun | 6 => 107 | 8 => 120 | 9 => 119 | 19 => 135 | 20 => 136 | 21 => 126 | 22 => 127 | 23 => 128 | 24 => 129 | 25 => 130 | 26 => 131 | 27 => 132 | 28 => 133 | 29 => 134 | 36 => 139 | 31 => 140 | 32 => 141 | 37 => 142 | 38 => 143 | 39 => 144 | 41 => 145 | n => n, fun | 27 => 22 | 29 => 9 | 3 => 3 | 32 => 36 | 26 => 22 | 0 => 0 | 44 => 186 | 46 => 159 | 4 => 4 | 36 => 178 | 35 => 177 | 41 => 183 | 5 => 5 | 9 => 9 | 53 => 189 | 57 => 193 | 63 => 195 | 64 => 196 | n => n, fun | n => n⟩
theorem Tryz.sortS : Go.Proofs.SlLaysM.n6 Tryz.prog Tryz.sortS_ren where
 mixed := by kernel_rfl
 f6 := ⟨"slices.Sort[[]string,string]", by decide, Tryz.func107.trans (congrArg some (by kernel_rfl))⟩
 f8 := Tryz.func120.trans (congrArg some (by kernel_rfl))
 f9 := ⟨"slices.pdqsortOrdered[string]", by decide, Tryz.func119.trans (congrArg some (by kernel_rfl))⟩
 f19 := Tryz.func135.trans (congrArg some (by kernel_rfl))
 f20 := Tryz.func136.trans (congrArg some (by kernel_rfl))
 f21 := ⟨"slices.insertionSortOrdered[string]", by decide, Tryz.func126.trans (congrArg some (by kernel_rfl))⟩
 f22 := ⟨"slices.heapSortOrdered[string]", by decide, Tryz.func127.trans (congrArg some (by kernel_rfl))⟩
 f23 := ⟨"slices.breakPatternsOrdered[string]", by decide, Tryz.func128.trans (congrArg some (by kernel_rfl))⟩
 f24 := ⟨"slices.choosePivotOrdered[string]", by decide, Tryz.func129.trans (congrArg some (by kernel_rfl))⟩
 f25 := ⟨"slices.reverseRangeOrdered[string]", by decide, Tryz.func130.trans (congrArg some (by kernel_rfl))⟩
 f26 := ⟨"slices.partialInsertionSortOrdered[string]", by decide, Tryz.func131.trans (congrArg some (by kernel_rfl))⟩
 f27 := ⟨"cmp.Less[string]", by decide, Tryz.func132.trans (congrArg some (by kernel_rfl))⟩
 f28 := ⟨"slices.partitionEqualOrdered[string]", by decide, Tryz.func133.trans (congrArg some (by kernel_rfl))⟩
 f29 := ⟨"slices.partitionOrdered[string]", by decide, Tryz.func134.trans (congrArg some (by kernel_rfl))⟩
 f31 := Tryz.func140.trans (congrArg some (by kernel_rfl))
 f32 := Tryz.func141.trans (congrArg some (by kernel_rfl))
 f36 := ⟨"slices.siftDownOrdered[string]", by decide, Tryz.func139.trans (congrArg some (by kernel_rfl))⟩
 f37 := ⟨"slices.medianAdjacentOrdered[string]", by decide, Tryz.func142.trans (congrArg some (by kernel_rfl))⟩
 f38 := ⟨"slices.medianOrdered[string]", by decide, Tryz.func143.trans (congrArg some (by kernel_rfl))⟩
 f39 := ⟨"cmp.isNaN[string]", by decide, Tryz.func144.trans (congrArg some (by kernel_rfl))⟩
 f41 := ⟨"slices.order2Ordered[string]", by decide, Tryz.func145.trans (congrArg some (by kernel_rfl))⟩
 t0 := Tryz.underlying0
 a0 := Tryz.isAgg0
 z0 := Tryz.sizeOf0
 v0 := Tryz.zeroValue0
 t3 := Tryz.underlying3
 a3 := Tryz.isAgg3
 z3 := Tryz.sizeOf3
 v3 := Tryz.zeroValue3
 t4 := Tryz.underlying4
 a4 := Tryz.isAgg4
 z4 := Tryz.sizeOf4
 v4 := Tryz.zeroValue4
 t5 := Tryz.underlying5
 a5 := Tryz.isAgg5
 z5 := Tryz.sizeOf5
 v5 := Tryz.zeroValue5
 t9 := Tryz.underlying9
 a9 := Tryz.isAgg9
 z9 := Tryz.sizeOf9
 v9 := Tryz.zeroValue9
 t26 := Tryz.underlying22
 a26 := Tryz.isAgg22
 z26 := Tryz.sizeOf22
 v26 := Tryz.zeroValue22
 t27 := Tryz.underlying22
 a27 := Tryz.isAgg22
 z27 := Tryz.sizeOf22
 v27 := Tryz.zeroValue22
 t29 := Tryz.underlying9
 a29 := Tryz.isAgg9
 z29 := Tryz.sizeOf9
 v29 := Tryz.zeroValue9
 t32 := Tryz.underlying36
 a32 := Tryz.isAgg36
 z32 := Tryz.sizeOf36
 v32 := Tryz.zeroValue36
 t35 := Tryz.underlying177
 a35 := Tryz.isAgg177
 z35 := Tryz.sizeOf177
 v35 := Tryz.zeroValue177
 t36 := Tryz.underlying178
 a36 := Tryz.isAgg178
 z36 := Tryz.sizeOf178
 v36 := Tryz.zeroValue178
 t41 := Tryz.underlying183
 a41 := Tryz.isAgg183
 z41 := Tryz.sizeOf183
 v41 := Tryz.zeroValue183
 t44 := Tryz.underlying186
 a44 := Tryz.isAgg186
 z44 := Tryz.sizeOf186
 v44 := Tryz.zeroValue186
 t46 := Tryz.underlying159
 a46 := Tryz.isAgg159
 z46 := Tryz.sizeOf159
 v46 := Tryz.zeroValue159
 t53 := Tryz.underlying189
 a53 := Tryz.isAgg189
 z53 := Tryz.sizeOf189
 v53 := Tryz.zeroValue189
 t57 := Tryz.underlying193
 a57 := Tryz.isAgg193
 z57 := Tryz.sizeOf193
 v57 := Tryz.zeroValue193
 t63 := Tryz.underlying195
 a63 := Tryz.isAgg195
 z63 := Tryz.sizeOf195
 v63 := Tryz.zeroValue195
 t64 := Tryz.underlying196
 a64 := Tryz.isAgg196
 z64 := Tryz.sizeOf196
 v64 := Tryz.zeroValue196

theorem Tryz.sortsS (m : Nat) : AnyZ.SortsIn Tryz.prog Tryz.sortedS_ren Fence.wide m :=
 ⟨fun blk off cap ss W hH hblk hsz => callsIn_wide.2 (AnyM.slices_Sort_string Tryz.sortS blk off cap ss W hH hblk hsz),
 fun p cap W => callsIn_wide.2 (AnyM.slices_Sort_string_none Tryz.sortS p cap W)⟩
namespace YtdioedabjaaboaaGreat.V
open Go Go.VL

theorem quiet_below {g : Gh} {w w' : World} (hn : ∀ b o, w.heap.size ≤ b → g.lab b o = .free) (h : Below w.heap.size w w') (b0 : Nat) (h0 : w.heap.size ≤ b0) (h1 : b0 < w'.heap.size) : Quiet g (g.mark b0 fun _ => .frozen) w w' where
 os := h.os
 tape := h.tape
 output := h.output
 size := h.size
 frozen b o hl := by
  have : b ≠ b0 := fun e => by have := hn b o (by omega); rw [this] at hl; cases hl
  simpa [Gh.mark, this] using hl
 foreign b o hl := by
  have : b ≠ b0 := fun e => by have := hn b o (by omega); rw [this] at hl; cases hl
  simpa [Gh.mark, this] using hl
 own b o hb hl := by
  have : b ≠ b0 := by omega
  simpa [Gh.mark, this] using hl
 kept b o hb _ := h.cell (p := ⟨b, o, none⟩) hb
 mark b o hb := h.frozen (p := ⟨b, o, none⟩) hb
 some b o hs := by
  have hb := lt_of_isSome hs
  rw [h.cell (p := ⟨b, o, none⟩) hb]
  exact hs
 block b hb _ := h.block b hb
 loc _ _ := rfl
 nxt := Nat.le_refl _
 knd _ _ := rfl
 same b o hb hl := by
  have : b ≠ b0 := by omega
  exact ⟨by simp [Gh.mark, this], h.cell (p := ⟨b, o, none⟩) hb⟩
 new b o hb := by
  have : b ≠ b0 := by omega
  simpa [Gh.mark, this] using hn b o (by have := h.size; omega)
 whole b hb := h.block b hb
theorem quiet_same {g : Gh} {w w' : World} (hn : ∀ b o, w.heap.size ≤ b → g.lab b o = .free) (h : Below w.heap.size w w') : Quiet g g w w' where
 os := h.os
 tape := h.tape
 output := h.output
 size := h.size
 frozen b o hl := hl
 foreign b o hl := hl
 own b o hb hl := hl
 kept b o hb _ := h.cell (p := ⟨b, o, none⟩) hb
 mark b o hb := h.frozen (p := ⟨b, o, none⟩) hb
 some b o hs := by
  have hb := lt_of_isSome hs
  rw [h.cell (p := ⟨b, o, none⟩) hb]
  exact hs
 block b hb _ := h.block b hb
 loc _ _ := rfl
 nxt := Nat.le_refl _
 knd _ _ := rfl
 same b o hb hl := ⟨rfl, h.cell (p := ⟨b, o, none⟩) hb⟩
 new b o hb := hn b o (by have := h.size; omega)
 whole b hb := h.block b hb

theorem keysG_calls (gid : Nat) (S : Store) (K : PV → Store → Prop) (hK : ∀ b, K (.fn (.func 108) [] [.nq b 0 [.mref gid]]) S) : PCalls Tryz.prog 81 [.mref gid] S K := by
 refine ⟨⟨_, Tryz.func81, rfl, rfl⟩, fun g w rargs h => ?_⟩
 obtain ⟨e0, rfl⟩ : ∃ v0, rargs = #[v0] := by
  have := h.size
  match rargs, this with
  | ⟨[v0]⟩, _ => exact ⟨v0, rfl⟩
 have h0 := (h.slots 0 (by simp)).rel
 simp only [argEnv, List.getD_cons_zero, Array.getD] at h0
 cases h0
 rename_i hid hk
 refine (callsIn_wide.1 (AnyZ.keys_in Tryz.keysG Fence.wide 5 trivial rfl _ w)).mono ?_
 rintro e w' ⟨rfl, rfl⟩
 have q := Quiet.alloc h.new (.cells #[.map (some (g.loc gid).1)] (Tryz.keysG_ren.t 23)) (fun _ => Lab.frozen)
 refine ⟨_, _, S, g.mark w.heap.size (fun _ => .frozen), rfl, hK w.heap.size, q.toFr, ⟨?_, by simp [Tail]⟩, fun id cells hi => (h.objs id cells hi).quiet q, q.new⟩
 refine .fn rfl rfl (fun k v rv hx => by simp at hx) ?_
 intro k v rv hv hrv
 obtain ⟨rfl, rfl⟩ : k = 0 ∧ v = .nq w.heap.size 0 [.mref gid] := by
  cases k with
  | zero => simp at hv; exact ⟨rfl, hv.symm⟩
  | succ n => simp at hv
 simp only [List.getElem?_toArray, List.getElem?_cons_zero, Option.some.injEq] at hrv
 subst hrv
 refine .nq (fun _ => .map (some (g.loc gid).1)) ⟨by simp, fun o => ?_⟩ ?_ ?_
 ·exact World.frozen?_alloc_at _ _ _ _ rfl
 ·intro k v hk'
  cases k with
  | zero => exact ⟨by simp [Gh.mark], World.cell?_alloc_at _ _ _ _ rfl, rfl⟩
  | succ n => simp at hk'
 ·intro k v hk'
  cases k with
  | zero =>
   simp at hk'
   subst hk'
   exact (Rel.mref hid hk).mono q.toFr
  | succ n => simp at hk'
def sortB (l : List ByteArray) : List ByteArray := ((l.map fun k => k.data.toList).mergeSort leB).map fun x => ⟨x.toArray⟩
theorem sortB_perm {l l' : List ByteArray} (h : l.Perm l') : sortB l = sortB l' := by
 unfold sortB
 rw [mergeSort_of_perm (h.map _)]
theorem str_inj {a b : ByteArray} (h : Value.string a = Value.string b) : a = b := by injection h
abbrev RU : Value → Option (DataW Unit × List MemPlace) := fun _ => some (.nil, [])
theorem owns_of {S : Store} {gid cl : Nat} {st : List (Nat × ByteArray)} {L : AL} (hM : MC S gid cl st L) (hL : L.length ≤ 1000000) (hk : ∀ k ∈ ks L, k.size ≤ 1000000) (hn : (ks L).Nodup) {g : Gh} {w : World} (ho : MapOk g w gid [.mcon cl st (L.map Prod.snd)]) :
  ∃ D, w.ownsMap Tryz.prog 9 RU (g.loc gid).1 L.length D ∧ Maps.size D = L.length ∧ (strKeys D).Perm ((ks L).map fun k => k.data.toList) := by
 obtain ⟨cl', ks', vs', es, e1, hlab, hheap, hes, hlen, hval⟩ := ho
 simp only [List.cons.injEq, PV.mcon.injEq, and_true] at e1
 obtain ⟨rfl, rfl, rfl⟩ := e1
 have hsz : es.toList.length = L.length := by
  have := congrArg List.length hes
  simp only [List.length_map] at this
  rw [this, hM.len]
 have hkeys : es.toList.map (fun e => e.key) = (ks L).map Value.string := by
  have := congrArg (List.map Prod.snd) hes
  simp only [List.map_map] at this
  rw [ks, ← hM.keys, List.map_map]
  exact this
 have hborn : es.toList.map (fun e => e.born) = st.map Prod.fst := by
  have := congrArg (List.map Prod.fst) hes
  simp only [List.map_map] at this
  exact this
 have hkey : ∀ x ∈ es.toList, ∃ k ∈ ks L, x.key = .string k := by
  intro x hx
  have : x.key ∈ (ks L).map Value.string := by rw [← hkeys]; exact List.mem_map.2 ⟨x, hx, rfl⟩
  obtain ⟨k, h1, h2⟩ := List.mem_map.1 this
  exact ⟨k, h1, h2.symm⟩
 have hmax : (1000000 : Nat) ≤ maxLen := by decide
 have hrd : ∀ x ∈ es.toList, ∀ k, x.key = .string k → k.size ≤ 1000000 → WideElems.rd Tryz.prog 9 RU x = some (.string k.data.toList, .nil) := by
  intro x _ k hxk hs
  unfold WideElems.rd
  rw [hxk, WideMaps.keyOf_string_mk Tryz.underlying9 (Nat.le_trans hs hmax)]
  rfl
 refine ⟨_, ⟨es, cl, hheap, ⟨?_, ⟨?_, ?_, ?_⟩, ?_⟩, ?_, rfl⟩, ?_, ?_⟩
 ·rw [← Array.length_toList, hsz]; exact Nat.le_trans hL hmax
 ·intro x hx
  have : x.born ∈ st.map Prod.fst := by rw [← hborn]; exact List.mem_map.2 ⟨x, hx, rfl⟩
  obtain ⟨p, hp, he⟩ := List.mem_map.1 this
  rw [← he]; exact hM.lt p hp
 ·show (es.toList.map fun e => e.born).Nodup
  rw [hborn]; exact hM.nodup
 ·show (es.toList.map fun e => e.key).Nodup
  rw [hkeys]
  exact List.Pairwise.map _ (fun a b hab he => hab (str_inj he)) hn
 ·intro x hx
  obtain ⟨k, h1, h2⟩ := hkey x hx
  exact ⟨_, hrd x hx k h2 (hk k h1)⟩
 ·rw [← Array.length_toList, hsz]; exact Nat.le_refl _
 ·rw [Maps.size_eq, (WideShapes.sorted_perm _).length_eq, List.length_map, hsz]
 ·unfold strKeys
  refine ((WideShapes.sorted_perm _).map _).trans ?_
  rw [List.map_map]
  have : es.toList.map ((fun p => strOf p.1) ∘ WideElems.rg Tryz.prog 9 RU) = (es.toList.map fun e => e.key).map fun v => match v with | .string s => s.data.toList | _ => [] := by
   rw [List.map_map]
   refine List.map_congr_left fun x hx => ?_
   obtain ⟨k, h1, h2⟩ := hkey x hx
   simp only [Function.comp]
   unfold WideElems.rg
   rw [hrd x hx k h2 (hk k h1), h2]
   rfl
  rw [this, hkeys, List.map_map]
  exact List.Perm.refl _
theorem sortedG_spec {S : Store} {gid cl : Nat} {st : List (Nat × ByteArray)} {L : AL} (hM : MC S gid cl st L) (hL : L.length ≤ 1000000) (hk : ∀ k ∈ ks L, k.size ≤ 1000000) (hn : (ks L).Nodup) (b : Nat) :
  PRet Tryz.prog 80 [.fn (.func 108) [] [.nq b 0 [.mref gid]]] S (.sl .no 1 (encS (sortB (ks L)))) := by
 intro K hK
 refine ⟨⟨_, Tryz.func80, rfl, rfl⟩, fun g w rargs h => ?_⟩
 obtain ⟨e0, rfl⟩ : ∃ v0, rargs = #[v0] := by
  have := h.size
  match rargs, this with
  | ⟨[v0]⟩, _ => exact ⟨v0, rfl⟩
 have h0 := (h.slots 0 (by simp)).rel
 simp only [argEnv, List.getD_cons_zero, Array.getD] at h0
 cases h0 with
 | @fn _ _ _ vs us hl hm hr hs =>
 obtain rfl : vs = #[] := Array.eq_empty_of_size_eq_zero hl.symm
 obtain ⟨u, rfl⟩ : ∃ u, us = #[u] := by
  match us, hm with
  | ⟨[v0]⟩, _ => exact ⟨v0, rfl⟩
 have hu := hs 0 _ _ rfl rfl
 cases hu with
 | @nq _ _ _ f hb hc hf =>
 obtain ⟨c1, c2, c3⟩ := hc 0 _ rfl
 have hf0 := hf 0 _ rfl
 generalize hfv : f 0 = fv at hf0 c2
 cases hf0 with
 | mref hid hkn =>
 obtain ⟨D, hown, hsz, hperm⟩ := owns_of hM hL hk hn ((h.objs gid _ hM.some).mp hkn)
 have hmax : (1000000 : Nat) ≤ maxLen := by decide
 have hseq : SeqGives Fence.wide 2 Tryz.prog 108 #[.pointer (some ⟨b, 0, none⟩)] encStr (fun ss => ss.Perm (strKeys D)) (Maps.size D) w :=
  AnyZ.keys_gives (ρ := Tryz.keysG_ren) { Tryz.keysG with } Fence.wide _ trivial rfl (by omega) b _ _ D w hb.1 (by simpa using c2) hown
 have hcall := AnyZ.sorted_in Tryz.sortedS Fence.wide 5 trivial trivial trivial trivial rfl (by omega) (Tryz.sortsS _) (enters_of Tryz.func107 (by kernel_rfl) rfl) 108 #[.pointer (some ⟨b, 0, none⟩)] trivial (enters_of Tryz.func108 (by kernel_rfl) rfl) _ _ (by rw [hsz]; omega) (by rw [hsz]; omega) w hseq
 refine (callsIn_wide.1 hcall).mono ?_
 rintro e w' ⟨v, ss, rfl, hS, hrow, hnil, hbel⟩
 have hrows : encS (sortB (ks L)) = (ss.mergeSort leB).map fun x => [PV.str ⟨x.toArray⟩] := by
  unfold encS sortB
  rw [List.map_map, mergeSort_of_perm (hS.trans hperm)]
  rfl
 rw [hrows] at hK
 rcases hrow.2 with ⟨rfl, hz⟩ | ⟨g0, cap, cur, rfl, hbase, hgb, r1, r2, r3, r4⟩
 ·have hss : ss = [] := List.length_eq_zero_iff.1 hz
  subst hss
  rw [List.mergeSort_nil, List.map_nil] at hK
  have q := quiet_same h.new hbel
  exact ⟨_, _, S, g, rfl, hK, q.toFr, ⟨.slnil _ _, by simp [Tail]⟩, fun id cells hi => (h.objs id cells hi).quiet q, q.new⟩
 ·have hlt : g0 < w'.heap.size := lt_of_heap hgb
  have q := quiet_below h.new hbel g0 hbase hlt
  refine ⟨_, _, S, _, rfl, hK, q.toFr, ⟨?_, by simp [Tail]⟩, fun id cells hi => (h.objs id cells hi).quiet q, q.new⟩
  have hlen : ss.length = ((ss.mergeSort leB).map fun x => [PV.str ⟨x.toArray⟩]).length := by simp
  rw [Nat.mul_one] at r4
  have hcell : ∀ (j : Nat) (x : List UInt8), (ss.mergeSort leB)[j]? = some x → w'.cell? ⟨g0, 0 + (j * 1 + 0), none⟩ = some (encStr x) := by
   intro j x hj
   have h1 : ((ss.mergeSort leB).map encStr)[j]? = some (encStr x) := by rw [List.getElem?_map, hj]; rfl
   rw [← r4] at h1
   have h2 : cur.toList[j]? = some (encStr x) := by
    rw [List.getElem?_take] at h1
    split at h1
    ·exact h1
    ·cases h1
   unfold World.cell?
   dsimp only
   rw [hgb]
   simpa using h2
  rw [hlen]
  refine .sl (fun j _ => encStr ((ss.mergeSort leB).getD j [])) (by rw [← hlen]; exact r1) ?_ ?_ ?_
  ·intro j c hj
   rw [List.getElem?_map] at hj
   cases hx : (ss.mergeSort leB)[j]? with
   | none => rw [hx] at hj; cases hj
   | some x => rw [hx] at hj; injection hj with hj; rw [← hj]; rfl
  ·intro j c k v hj hkv
   rw [List.getElem?_map] at hj
   cases hx : (ss.mergeSort leB)[j]? with
   | none => rw [hx] at hj; cases hj
   | some x =>
    rw [hx] at hj; injection hj with hj
    subst hj
    cases k with
    | zero =>
     refine ⟨by simp [Gh.mark], ?_, rfl⟩
     rw [hcell j x hx, List.getD_eq_getElem?_getD, hx]; rfl
    | succ n => simp at hkv
  ·intro j c k v hj hkv
   rw [List.getElem?_map] at hj
   cases hx : (ss.mergeSort leB)[j]? with
   | none => rw [hx] at hj; cases hj
   | some x =>
    rw [hx] at hj; injection hj with hj
    subst hj
    cases k with
    | zero =>
     simp only [List.getElem?_cons_zero, Option.some.injEq] at hkv
     subst hkv
     rw [List.getD_eq_getElem?_getD, hx]
     exact .str _
    | succ n => simp at hkv
theorem keysB_calls (gid : Nat) (S : Store) (K : PV → Store → Prop) (hK : ∀ b, K (.fn (.func 109) [] [.nq b 0 [.mref gid]]) S) : PCalls Tryz.prog 82 [.mref gid] S K := by
 refine ⟨⟨_, Tryz.func82, rfl, rfl⟩, fun g w rargs h => ?_⟩
 obtain ⟨e0, rfl⟩ : ∃ v0, rargs = #[v0] := by
  have := h.size
  match rargs, this with
  | ⟨[v0]⟩, _ => exact ⟨v0, rfl⟩
 have h0 := (h.slots 0 (by simp)).rel
 simp only [argEnv, List.getD_cons_zero, Array.getD] at h0
 cases h0
 rename_i hid hk
 refine (callsIn_wide.1 (AnyZ.keys_in Tryz.keysB Fence.wide 5 trivial rfl _ w)).mono ?_
 rintro e w' ⟨rfl, rfl⟩
 have q := Quiet.alloc h.new (.cells #[.map (some (g.loc gid).1)] (Tryz.keysB_ren.t 23)) (fun _ => Lab.frozen)
 refine ⟨_, _, S, g.mark w.heap.size (fun _ => .frozen), rfl, hK w.heap.size, q.toFr, ⟨?_, by simp [Tail]⟩, fun id cells hi => (h.objs id cells hi).quiet q, q.new⟩
 refine .fn rfl rfl (fun k v rv hx => by simp at hx) ?_
 intro k v rv hv hrv
 obtain ⟨rfl, rfl⟩ : k = 0 ∧ v = .nq w.heap.size 0 [.mref gid] := by
  cases k with
  | zero => simp at hv; exact ⟨rfl, hv.symm⟩
  | succ n => simp at hv
 simp only [List.getElem?_toArray, List.getElem?_cons_zero, Option.some.injEq] at hrv
 subst hrv
 refine .nq (fun _ => .map (some (g.loc gid).1)) ⟨by simp, fun o => ?_⟩ ?_ ?_
 ·exact World.frozen?_alloc_at _ _ _ _ rfl
 ·intro k v hk'
  cases k with
  | zero => exact ⟨by simp [Gh.mark], World.cell?_alloc_at _ _ _ _ rfl, rfl⟩
  | succ n => simp at hk'
 ·intro k v hk'
  cases k with
  | zero =>
   simp at hk'
   subst hk'
   exact (Rel.mref hid hk).mono q.toFr
  | succ n => simp at hk'
theorem sortedB_spec {S : Store} {gid cl : Nat} {st : List (Nat × ByteArray)} {L : AL} (hM : MC S gid cl st L) (hL : L.length ≤ 1000000) (hk : ∀ k ∈ ks L, k.size ≤ 1000000) (hn : (ks L).Nodup) (b : Nat) :
  PRet Tryz.prog 80 [.fn (.func 109) [] [.nq b 0 [.mref gid]]] S (.sl .no 1 (encS (sortB (ks L)))) := by
 intro K hK
 refine ⟨⟨_, Tryz.func80, rfl, rfl⟩, fun g w rargs h => ?_⟩
 obtain ⟨e0, rfl⟩ : ∃ v0, rargs = #[v0] := by
  have := h.size
  match rargs, this with
  | ⟨[v0]⟩, _ => exact ⟨v0, rfl⟩
 have h0 := (h.slots 0 (by simp)).rel
 simp only [argEnv, List.getD_cons_zero, Array.getD] at h0
 cases h0 with
 | @fn _ _ _ vs us hl hm hr hs =>
 obtain rfl : vs = #[] := Array.eq_empty_of_size_eq_zero hl.symm
 obtain ⟨u, rfl⟩ : ∃ u, us = #[u] := by
  match us, hm with
  | ⟨[v0]⟩, _ => exact ⟨v0, rfl⟩
 have hu := hs 0 _ _ rfl rfl
 cases hu with
 | @nq _ _ _ f hb hc hf =>
 obtain ⟨c1, c2, c3⟩ := hc 0 _ rfl
 have hf0 := hf 0 _ rfl
 generalize hfv : f 0 = fv at hf0 c2
 cases hf0 with
 | mref hid hkn =>
 obtain ⟨D, hown, hsz, hperm⟩ := owns_of hM hL hk hn ((h.objs gid _ hM.some).mp hkn)
 have hmax : (1000000 : Nat) ≤ maxLen := by decide
 have hseq : SeqGives Fence.wide 2 Tryz.prog 109 #[.pointer (some ⟨b, 0, none⟩)] encStr (fun ss => ss.Perm (strKeys D)) (Maps.size D) w :=
  AnyZ.keys_gives (ρ := Tryz.keysB_ren) { Tryz.keysB with } Fence.wide _ trivial rfl (by omega) b _ _ D w hb.1 (by simpa using c2) hown
 have hcall := AnyZ.sorted_in Tryz.sortedS Fence.wide 5 trivial trivial trivial trivial rfl (by omega) (Tryz.sortsS _) (enters_of Tryz.func107 (by kernel_rfl) rfl) 109 #[.pointer (some ⟨b, 0, none⟩)] trivial (enters_of Tryz.func109 (by kernel_rfl) rfl) _ _ (by rw [hsz]; omega) (by rw [hsz]; omega) w hseq
 refine (callsIn_wide.1 hcall).mono ?_
 rintro e w' ⟨v, ss, rfl, hS, hrow, hnil, hbel⟩
 have hrows : encS (sortB (ks L)) = (ss.mergeSort leB).map fun x => [PV.str ⟨x.toArray⟩] := by
  unfold encS sortB
  rw [List.map_map, mergeSort_of_perm (hS.trans hperm)]
  rfl
 rw [hrows] at hK
 rcases hrow.2 with ⟨rfl, hz⟩ | ⟨g0, cap, cur, rfl, hbase, hgb, r1, r2, r3, r4⟩
 ·have hss : ss = [] := List.length_eq_zero_iff.1 hz
  subst hss
  rw [List.mergeSort_nil, List.map_nil] at hK
  have q := quiet_same h.new hbel
  exact ⟨_, _, S, g, rfl, hK, q.toFr, ⟨.slnil _ _, by simp [Tail]⟩, fun id cells hi => (h.objs id cells hi).quiet q, q.new⟩
 ·have hlt : g0 < w'.heap.size := lt_of_heap hgb
  have q := quiet_below h.new hbel g0 hbase hlt
  refine ⟨_, _, S, _, rfl, hK, q.toFr, ⟨?_, by simp [Tail]⟩, fun id cells hi => (h.objs id cells hi).quiet q, q.new⟩
  have hlen : ss.length = ((ss.mergeSort leB).map fun x => [PV.str ⟨x.toArray⟩]).length := by simp
  rw [Nat.mul_one] at r4
  have hcell : ∀ (j : Nat) (x : List UInt8), (ss.mergeSort leB)[j]? = some x → w'.cell? ⟨g0, 0 + (j * 1 + 0), none⟩ = some (encStr x) := by
   intro j x hj
   have h1 : ((ss.mergeSort leB).map encStr)[j]? = some (encStr x) := by rw [List.getElem?_map, hj]; rfl
   rw [← r4] at h1
   have h2 : cur.toList[j]? = some (encStr x) := by
    rw [List.getElem?_take] at h1
    split at h1
    ·exact h1
    ·cases h1
   unfold World.cell?
   dsimp only
   rw [hgb]
   simpa using h2
  rw [hlen]
  refine .sl (fun j _ => encStr ((ss.mergeSort leB).getD j [])) (by rw [← hlen]; exact r1) ?_ ?_ ?_
  ·intro j c hj
   rw [List.getElem?_map] at hj
   cases hx : (ss.mergeSort leB)[j]? with
   | none => rw [hx] at hj; cases hj
   | some x => rw [hx] at hj; injection hj with hj; rw [← hj]; rfl
  ·intro j c k v hj hkv
   rw [List.getElem?_map] at hj
   cases hx : (ss.mergeSort leB)[j]? with
   | none => rw [hx] at hj; cases hj
   | some x =>
    rw [hx] at hj; injection hj with hj
    subst hj
    cases k with
    | zero =>
     refine ⟨by simp [Gh.mark], ?_, rfl⟩
     rw [hcell j x hx, List.getD_eq_getElem?_getD, hx]; rfl
    | succ n => simp at hkv
  ·intro j c k v hj hkv
   rw [List.getElem?_map] at hj
   cases hx : (ss.mergeSort leB)[j]? with
   | none => rw [hx] at hj; cases hj
   | some x =>
    rw [hx] at hj; injection hj with hj
    subst hj
    cases k with
    | zero =>
     simp only [List.getElem?_cons_zero, Option.some.injEq] at hkv
     subst hkv
     rw [List.getD_eq_getElem?_getD, hx]
     exact .str _
    | succ n => simp at hkv
end YtdioedabjaaboaaGreat.V
end Go.Proofs
