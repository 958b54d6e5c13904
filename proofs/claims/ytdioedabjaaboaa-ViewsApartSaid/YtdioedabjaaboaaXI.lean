/- Views: the sorted keys of a map: the kit's contracts, laid here, in the words of values by content. -/
import Derived.Test.YtdioedabjaaboaaXH
import Derived.Shelf.SlIter.Nil
import Derived.Shelf.SortM.Plain
import Derived.Shelf.SortM.SortNone
import Derived.Ground.GgzProg
import Derived.Ground.SlgmProg
set_option linter.unusedVariables false
set_option linter.unusedSimpArgs false
namespace Go.Proofs
open Go.RowKit Go.Maps Go.Sort Go.Shelf
def Try.keysG_ren : Go.Shelf.Ren := ⟨fun | 7 => 50 | 10 => 65 | n => n, fun | 23 => 72 | 26 => 9 | 3 => 113 | 28 => 107 | 0 => 0 | 27 => 106 | 33 => 131 | 4 => 4 | n => n, fun | n => n⟩
theorem Try.keysG : Go.Proofs.SlLaysZ.n7 Try.prog Try.keysG_ren where
  mixed := by kernel_rfl
  f7 := ⟨"maps.Keys[map[string]tidemark/views.group,string,tidemark/views.group]", by decide, Try.func50.trans (congrArg some (by kernel_rfl))⟩
  f10 := ⟨"maps.Keys[map[string]tidemark/views.group,string,tidemark/views.group]$1", by decide, Try.func65.trans (congrArg some (by kernel_rfl))⟩
  t0 := Try.underlying0
  a0 := Try.isAgg0
  z0 := Try.sizeOf0
  v0 := Try.zeroValue0
  t4 := Try.underlying4
  a4 := Try.isAgg4
  z4 := Try.sizeOf4
  v4 := Try.zeroValue4
  t23 := Try.underlying72
  a23 := Try.isAgg72
  z23 := Try.sizeOf72
  v23 := Try.zeroValue72
  t26 := Try.underlying9
  a26 := Try.isAgg9
  z26 := Try.sizeOf9
  v26 := Try.zeroValue9
  t27 := Try.underlying106
  a27 := Try.isAgg106
  z27 := Try.sizeOf106
  v27 := Try.zeroValue106
  t28 := Try.underlying107
  a28 := Try.isAgg107
  z28 := Try.sizeOf107
  v28 := Try.zeroValue107
  t33 := Try.underlying131
  a33 := Try.isAgg131
  z33 := Try.sizeOf131
  v33 := Try.zeroValue131

def Try.keysB_ren : Go.Shelf.Ren := ⟨fun | 7 => 51 | 10 => 66 | n => n, fun | 23 => 109 | 26 => 9 | 3 => 4 | 28 => 107 | 0 => 0 | 27 => 106 | 33 => 131 | 4 => 4 | n => n, fun | n => n⟩
theorem Try.keysB : Go.Proofs.SlLaysZ.n7 Try.prog Try.keysB_ren where
  mixed := by kernel_rfl
  f7 := ⟨"maps.Keys[map[string]bool,string,bool]", by decide, Try.func51.trans (congrArg some (by kernel_rfl))⟩
  f10 := ⟨"maps.Keys[map[string]bool,string,bool]$1", by decide, Try.func66.trans (congrArg some (by kernel_rfl))⟩
  t0 := Try.underlying0
  a0 := Try.isAgg0
  z0 := Try.sizeOf0
  v0 := Try.zeroValue0
  t4 := Try.underlying4
  a4 := Try.isAgg4
  z4 := Try.sizeOf4
  v4 := Try.zeroValue4
  t23 := Try.underlying109
  a23 := Try.isAgg109
  z23 := Try.sizeOf109
  v23 := Try.zeroValue109
  t26 := Try.underlying9
  a26 := Try.isAgg9
  z26 := Try.sizeOf9
  v26 := Try.zeroValue9
  t27 := Try.underlying106
  a27 := Try.isAgg106
  z27 := Try.sizeOf106
  v27 := Try.zeroValue106
  t28 := Try.underlying107
  a28 := Try.isAgg107
  z28 := Try.sizeOf107
  v28 := Try.zeroValue107
  t33 := Try.underlying131
  a33 := Try.isAgg131
  z33 := Try.sizeOf131
  v33 := Try.zeroValue131

def Try.sortedS_ren : Go.Shelf.Ren := ⟨fun | 6 => 49 | 8 => 63 | 9 => 64 | 11 => 75 | 13 => 77 | 12 => 76 | 23 => 92 | 24 => 93 | 14 => 83 | 15 => 84 | 16 => 85 | 17 => 86 | 18 => 87 | 19 => 88 | 20 => 89 | 21 => 90 | 22 => 91 | 25 => 96 | 26 => 97 | 27 => 98 | 28 => 99 | 29 => 100 | 30 => 101 | 31 => 102 | n => n, fun | 26 => 9 | 28 => 107 | 24 => 62 | 0 => 0 | 3 => 3 | 37 => 37 | 48 => 154 | 50 => 141 | 4 => 4 | 40 => 146 | 39 => 145 | 45 => 151 | 5 => 5 | 9 => 9 | 51 => 157 | 55 => 161 | 57 => 163 | 58 => 164 | 33 => 131 | n => n, fun | n => n⟩
theorem Try.sortedS : Go.Proofs.SlLaysZ.n6 Try.prog Try.sortedS_ren where
  mixed := by kernel_rfl
  f6 := ⟨"slices.Sorted[string]", by decide, Try.func49.trans (congrArg some (by kernel_rfl))⟩
  f8 := ⟨"slices.Collect[string]", by decide, Try.func63.trans (congrArg some (by kernel_rfl))⟩
  f11 := ⟨"slices.AppendSeq[[]string,string]", by decide, Try.func75.trans (congrArg some (by kernel_rfl))⟩
  t0 := Try.underlying0
  a0 := Try.isAgg0
  z0 := Try.sizeOf0
  v0 := Try.zeroValue0
  t24 := Try.underlying62
  a24 := Try.isAgg62
  z24 := Try.sizeOf62
  v24 := Try.zeroValue62
  t26 := Try.underlying9
  a26 := Try.isAgg9
  z26 := Try.sizeOf9
  v26 := Try.zeroValue9
  t28 := Try.underlying107
  a28 := Try.isAgg107
  z28 := Try.sizeOf107
  v28 := Try.zeroValue107
  i26 := by kernel_rfl

def Try.sortS_ren : Go.Shelf.Ren := ⟨fun | 6 => 64 | 8 => 77 | 9 => 76 | 19 => 92 | 20 => 93 | 21 => 83 | 22 => 84 | 23 => 85 | 24 => 86 | 25 => 87 | 26 => 88 | 27 => 89 | 28 => 90 | 29 => 91 | 36 => 96 | 31 => 97 | 32 => 98 | 37 => 99 | 38 => 100 | 39 => 101 | 41 => 102 | n => n, fun | 27 => 62 | 29 => 9 | 3 => 3 | 32 => 37 | 26 => 62 | 0 => 0 | 44 => 154 | 46 => 141 | 4 => 4 | 36 => 146 | 35 => 145 | 41 => 151 | 5 => 5 | 9 => 9 | 53 => 157 | 57 => 161 | 63 => 163 | 64 => 164 | n => n, fun | n => n⟩
theorem Try.sortS : Go.Proofs.SlLaysM.n6 Try.prog Try.sortS_ren where
  mixed := by kernel_rfl
  f6 := ⟨"slices.Sort[[]string,string]", by decide, Try.func64.trans (congrArg some (by kernel_rfl))⟩
  f8 := Try.func77.trans (congrArg some (by kernel_rfl))
  f9 := ⟨"slices.pdqsortOrdered[string]", by decide, Try.func76.trans (congrArg some (by kernel_rfl))⟩
  f19 := Try.func92.trans (congrArg some (by kernel_rfl))
  f20 := Try.func93.trans (congrArg some (by kernel_rfl))
  f21 := ⟨"slices.insertionSortOrdered[string]", by decide, Try.func83.trans (congrArg some (by kernel_rfl))⟩
  f22 := ⟨"slices.heapSortOrdered[string]", by decide, Try.func84.trans (congrArg some (by kernel_rfl))⟩
  f23 := ⟨"slices.breakPatternsOrdered[string]", by decide, Try.func85.trans (congrArg some (by kernel_rfl))⟩
  f24 := ⟨"slices.choosePivotOrdered[string]", by decide, Try.func86.trans (congrArg some (by kernel_rfl))⟩
  f25 := ⟨"slices.reverseRangeOrdered[string]", by decide, Try.func87.trans (congrArg some (by kernel_rfl))⟩
  f26 := ⟨"slices.partialInsertionSortOrdered[string]", by decide, Try.func88.trans (congrArg some (by kernel_rfl))⟩
  f27 := ⟨"cmp.Less[string]", by decide, Try.func89.trans (congrArg some (by kernel_rfl))⟩
  f28 := ⟨"slices.partitionEqualOrdered[string]", by decide, Try.func90.trans (congrArg some (by kernel_rfl))⟩
  f29 := ⟨"slices.partitionOrdered[string]", by decide, Try.func91.trans (congrArg some (by kernel_rfl))⟩
  f31 := Try.func97.trans (congrArg some (by kernel_rfl))
  f32 := Try.func98.trans (congrArg some (by kernel_rfl))
  f36 := ⟨"slices.siftDownOrdered[string]", by decide, Try.func96.trans (congrArg some (by kernel_rfl))⟩
  f37 := ⟨"slices.medianAdjacentOrdered[string]", by decide, Try.func99.trans (congrArg some (by kernel_rfl))⟩
  f38 := ⟨"slices.medianOrdered[string]", by decide, Try.func100.trans (congrArg some (by kernel_rfl))⟩
  f39 := ⟨"cmp.isNaN[string]", by decide, Try.func101.trans (congrArg some (by kernel_rfl))⟩
  f41 := ⟨"slices.order2Ordered[string]", by decide, Try.func102.trans (congrArg some (by kernel_rfl))⟩
  t0 := Try.underlying0
  a0 := Try.isAgg0
  z0 := Try.sizeOf0
  v0 := Try.zeroValue0
  t3 := Try.underlying3
  a3 := Try.isAgg3
  z3 := Try.sizeOf3
  v3 := Try.zeroValue3
  t4 := Try.underlying4
  a4 := Try.isAgg4
  z4 := Try.sizeOf4
  v4 := Try.zeroValue4
  t5 := Try.underlying5
  a5 := Try.isAgg5
  z5 := Try.sizeOf5
  v5 := Try.zeroValue5
  t9 := Try.underlying9
  a9 := Try.isAgg9
  z9 := Try.sizeOf9
  v9 := Try.zeroValue9
  t26 := Try.underlying62
  a26 := Try.isAgg62
  z26 := Try.sizeOf62
  v26 := Try.zeroValue62
  t27 := Try.underlying62
  a27 := Try.isAgg62
  z27 := Try.sizeOf62
  v27 := Try.zeroValue62
  t29 := Try.underlying9
  a29 := Try.isAgg9
  z29 := Try.sizeOf9
  v29 := Try.zeroValue9
  t32 := Try.underlying37
  a32 := Try.isAgg37
  z32 := Try.sizeOf37
  v32 := Try.zeroValue37
  t35 := Try.underlying145
  a35 := Try.isAgg145
  z35 := Try.sizeOf145
  v35 := Try.zeroValue145
  t36 := Try.underlying146
  a36 := Try.isAgg146
  z36 := Try.sizeOf146
  v36 := Try.zeroValue146
  t41 := Try.underlying151
  a41 := Try.isAgg151
  z41 := Try.sizeOf151
  v41 := Try.zeroValue151
  t44 := Try.underlying154
  a44 := Try.isAgg154
  z44 := Try.sizeOf154
  v44 := Try.zeroValue154
  t46 := Try.underlying141
  a46 := Try.isAgg141
  z46 := Try.sizeOf141
  v46 := Try.zeroValue141
  t53 := Try.underlying157
  a53 := Try.isAgg157
  z53 := Try.sizeOf157
  v53 := Try.zeroValue157
  t57 := Try.underlying161
  a57 := Try.isAgg161
  z57 := Try.sizeOf161
  v57 := Try.zeroValue161
  t63 := Try.underlying163
  a63 := Try.isAgg163
  z63 := Try.sizeOf163
  v63 := Try.zeroValue163
  t64 := Try.underlying164
  a64 := Try.isAgg164
  z64 := Try.sizeOf164
  v64 := Try.zeroValue164

theorem Try.sortsS (m : Nat) : AnyZ.SortsIn Try.prog Try.sortedS_ren Fence.wide m :=
  ⟨fun blk off cap ss W hH hblk hsz => callsIn_wide.2 (AnyM.slices_Sort_string Try.sortS blk off cap ss W hH hblk hsz),
   fun p cap W => callsIn_wide.2 (AnyM.slices_Sort_string_none Try.sortS p cap W)⟩
namespace Ytdioedabjaaboaa.V
open Go Go.VL

theorem quiet_below {g : Gh} {w w' : World} (hn : ∀ b o, w.heap.size ≤ b → g.lab b o = .free) (h : Below w.heap.size w w') (b0 : Nat) (h0 : w.heap.size ≤ b0) (h1 : b0 < w'.heap.size) : Quiet g (g.mark b0 fun _ => .frozen) w w' where
  os := h.os
  tape := h.tape
  output := h.output
  size := h.size
  frozen b o hl := by
    have : b ≠ b0 := fun e => by have := hn b o (by omega); rw [this] at hl; cases hl
    simpa [Gh.mark, this] using hl
  foreign b o hl := by
    have : b ≠ b0 := fun e => by have := hn b o (by omega); rw [this] at hl; cases hl
    simpa [Gh.mark, this] using hl
  own b o hb hl := by
    have : b ≠ b0 := by omega
    simpa [Gh.mark, this] using hl
  kept b o hb _ := h.cell (p := ⟨b, o, none⟩) hb
  mark b o hb := h.frozen (p := ⟨b, o, none⟩) hb
  some b o hs := by
    have hb := lt_of_isSome hs
    rw [h.cell (p := ⟨b, o, none⟩) hb]
    exact hs
  block b hb _ := h.block b hb
  loc _ _ := rfl
  nxt := Nat.le_refl _
  knd _ _ := rfl
  same b o hb hl := by
    have : b ≠ b0 := by omega
    exact ⟨by simp [Gh.mark, this], h.cell (p := ⟨b, o, none⟩) hb⟩
  new b o hb := by
    have : b ≠ b0 := by omega
    simpa [Gh.mark, this] using hn b o (by have := h.size; omega)
  whole b hb := h.block b hb
theorem quiet_same {g : Gh} {w w' : World} (hn : ∀ b o, w.heap.size ≤ b → g.lab b o = .free) (h : Below w.heap.size w w') : Quiet g g w w' where
  os := h.os
  tape := h.tape
  output := h.output
  size := h.size
  frozen b o hl := hl
  foreign b o hl := hl
  own b o hb hl := hl
  kept b o hb _ := h.cell (p := ⟨b, o, none⟩) hb
  mark b o hb := h.frozen (p := ⟨b, o, none⟩) hb
  some b o hs := by
    have hb := lt_of_isSome hs
    rw [h.cell (p := ⟨b, o, none⟩) hb]
    exact hs
  block b hb _ := h.block b hb
  loc _ _ := rfl
  nxt := Nat.le_refl _
  knd _ _ := rfl
  same b o hb hl := ⟨rfl, h.cell (p := ⟨b, o, none⟩) hb⟩
  new b o hb := hn b o (by have := h.size; omega)
  whole b hb := h.block b hb

theorem keysG_calls (gid : Nat) (S : Store) (K : PV → Store → Prop) (hK : ∀ b, K (.fn (.func 65) [] [.nq b 0 [.mref gid]]) S) : PCalls Try.prog 50 [.mref gid] S K := by
  refine ⟨⟨_, Try.func50, rfl, rfl⟩, fun g w rargs h => ?_⟩
  obtain ⟨e0, rfl⟩ : ∃ v0, rargs = #[v0] := by
    have := h.size
    match rargs, this with
    | ⟨[v0]⟩, _ => exact ⟨v0, rfl⟩
  have h0 := (h.slots 0 (by simp)).rel
  simp only [argEnv, List.getD_cons_zero, Array.getD] at h0
  cases h0
  rename_i hid hk
  refine (callsIn_wide.1 (AnyZ.keys_in Try.keysG Fence.wide 5 trivial rfl _ w)).mono ?_
  rintro e w' ⟨rfl, rfl⟩
  have q := Quiet.alloc h.new (.cells #[.map (some (g.loc gid).1)] 72) (fun _ => Lab.frozen)
  refine ⟨_, _, S, g.mark w.heap.size (fun _ => .frozen), rfl, hK w.heap.size, q.toFr, ⟨?_, by simp [Tail]⟩, fun id cells hi => (h.objs id cells hi).quiet q, q.new⟩
  refine .fn rfl rfl (fun k v rv hx => by simp at hx) ?_
  intro k v rv hv hrv
  obtain ⟨rfl, rfl⟩ : k = 0 ∧ v = .nq w.heap.size 0 [.mref gid] := by
    cases k with
    | zero => simp at hv; exact ⟨rfl, hv.symm⟩
    | succ n => simp at hv
  simp only [List.getElem?_toArray, List.getElem?_cons_zero, Option.some.injEq] at hrv
  subst hrv
  refine .nq (fun _ => .map (some (g.loc gid).1)) ⟨by simp, fun o => ?_⟩ ?_ ?_
  · exact World.frozen?_alloc_at _ _ _ _ rfl
  · intro k v hk'
    cases k with
    | zero => exact ⟨by simp [Gh.mark], World.cell?_alloc_at _ _ _ _ rfl, rfl⟩
    | succ n => simp at hk'
  · intro k v hk'
    cases k with
    | zero =>
      simp at hk'
      subst hk'
      exact (Rel.mref hid hk).mono q.toFr
    | succ n => simp at hk'
def sortB (l : List ByteArray) : List ByteArray := ((l.map fun k => k.data.toList).mergeSort leB).map fun x => ⟨x.toArray⟩
theorem sortB_perm {l l' : List ByteArray} (h : l.Perm l') : sortB l = sortB l' := by
  unfold sortB
  rw [mergeSort_of_perm (h.map _)]
theorem str_inj {a b : ByteArray} (h : Value.string a = Value.string b) : a = b := by injection h
abbrev RU : Value → Option (DataW Unit × List MemPlace) := fun _ => some (.nil, [])
theorem owns_of {S : Store} {gid cl : Nat} {st : List (Nat × ByteArray)} {L : AL} (hM : MC S gid cl st L) (hL : L.length ≤ 1000000) (hk : ∀ k ∈ ks L, k.size ≤ 1000000) (hn : (ks L).Nodup) {g : Gh} {w : World} (ho : MapOk g w gid [.mcon cl st (L.map Prod.snd)]) :
    ∃ D, w.ownsMap Try.prog 9 RU (g.loc gid).1 L.length D ∧ Maps.size D = L.length ∧ (strKeys D).Perm ((ks L).map fun k => k.data.toList) := by
  obtain ⟨cl', ks', vs', es, e1, hlab, hheap, hes, hlen, hval⟩ := ho
  simp only [List.cons.injEq, PV.mcon.injEq, and_true] at e1
  obtain ⟨rfl, rfl, rfl⟩ := e1
  have hsz : es.toList.length = L.length := by
    have := congrArg List.length hes
    simp only [List.length_map] at this
    rw [this, hM.len]
  have hkeys : es.toList.map (fun e => e.key) = (ks L).map Value.string := by
    have := congrArg (List.map Prod.snd) hes
    simp only [List.map_map] at this
    rw [ks, ← hM.keys, List.map_map]
    exact this
  have hborn : es.toList.map (fun e => e.born) = st.map Prod.fst := by
    have := congrArg (List.map Prod.fst) hes
    simp only [List.map_map] at this
    exact this
  have hkey : ∀ x ∈ es.toList, ∃ k ∈ ks L, x.key = .string k := by
    intro x hx
    have : x.key ∈ (ks L).map Value.string := by rw [← hkeys]; exact List.mem_map.2 ⟨x, hx, rfl⟩
    obtain ⟨k, h1, h2⟩ := List.mem_map.1 this
    exact ⟨k, h1, h2.symm⟩
  have hmax : (1000000 : Nat) ≤ maxLen := by decide
  have hrd : ∀ x ∈ es.toList, ∀ k, x.key = .string k → k.size ≤ 1000000 → WideElems.rd Try.prog 9 RU x = some (.string k.data.toList, .nil) := by
    intro x _ k hxk hs
    unfold WideElems.rd
    rw [hxk, WideMaps.keyOf_string_mk Try.underlying9 (Nat.le_trans hs hmax)]
    rfl
  refine ⟨_, ⟨es, cl, hheap, ⟨?_, ⟨?_, ?_, ?_⟩, ?_⟩, ?_, rfl⟩, ?_, ?_⟩
  · rw [← Array.length_toList, hsz]; exact Nat.le_trans hL hmax
  · intro x hx
    have : x.born ∈ st.map Prod.fst := by rw [← hborn]; exact List.mem_map.2 ⟨x, hx, rfl⟩
    obtain ⟨p, hp, he⟩ := List.mem_map.1 this
    rw [← he]; exact hM.lt p hp
  · show (es.toList.map fun e => e.born).Nodup
    rw [hborn]; exact hM.nodup
  · show (es.toList.map fun e => e.key).Nodup
    rw [hkeys]
    exact List.Pairwise.map _ (fun a b hab he => hab (str_inj he)) hn
  · intro x hx
    obtain ⟨k, h1, h2⟩ := hkey x hx
    exact ⟨_, hrd x hx k h2 (hk k h1)⟩
  · rw [← Array.length_toList, hsz]; exact Nat.le_refl _
  · rw [Maps.size_eq, (WideShapes.sorted_perm _).length_eq, List.length_map, hsz]
  · unfold strKeys
    refine ((WideShapes.sorted_perm _).map _).trans ?_
    rw [List.map_map]
    have : es.toList.map ((fun p => strOf p.1) ∘ WideElems.rg Try.prog 9 RU) = (es.toList.map fun e => e.key).map fun v => match v with | .string s => s.data.toList | _ => [] := by
      rw [List.map_map]
      refine List.map_congr_left fun x hx => ?_
      obtain ⟨k, h1, h2⟩ := hkey x hx
      simp only [Function.comp]
      unfold WideElems.rg
      rw [hrd x hx k h2 (hk k h1), h2]
      rfl
    rw [this, hkeys, List.map_map]
    exact List.Perm.refl _
theorem sortedG_spec {S : Store} {gid cl : Nat} {st : List (Nat × ByteArray)} {L : AL} (hM : MC S gid cl st L) (hL : L.length ≤ 1000000) (hk : ∀ k ∈ ks L, k.size ≤ 1000000) (hn : (ks L).Nodup) (b : Nat) :
    PRet Try.prog 49 [.fn (.func 65) [] [.nq b 0 [.mref gid]]] S (.sl .no 1 (encS (sortB (ks L)))) := by
  intro K hK
  refine ⟨⟨_, Try.func49, rfl, rfl⟩, fun g w rargs h => ?_⟩
  obtain ⟨e0, rfl⟩ : ∃ v0, rargs = #[v0] := by
    have := h.size
    match rargs, this with
    | ⟨[v0]⟩, _ => exact ⟨v0, rfl⟩
  have h0 := (h.slots 0 (by simp)).rel
  simp only [argEnv, List.getD_cons_zero, Array.getD] at h0
  cases h0 with
  | @fn _ _ _ vs us hl hm hr hs =>
  obtain rfl : vs = #[] := Array.eq_empty_of_size_eq_zero hl.symm
  obtain ⟨u, rfl⟩ : ∃ u, us = #[u] := by
    match us, hm with
    | ⟨[v0]⟩, _ => exact ⟨v0, rfl⟩
  have hu := hs 0 _ _ rfl rfl
  cases hu with
  | @nq _ _ _ f hb hc hf =>
  obtain ⟨c1, c2, c3⟩ := hc 0 _ rfl
  have hf0 := hf 0 _ rfl
  generalize hfv : f 0 = fv at hf0 c2
  cases hf0 with
  | mref hid hkn =>
  obtain ⟨D, hown, hsz, hperm⟩ := owns_of hM hL hk hn ((h.objs gid _ hM.some).mp hkn)
  have hmax : (1000000 : Nat) ≤ maxLen := by decide
  have hseq : SeqGives Fence.wide 2 Try.prog 65 #[.pointer (some ⟨b, 0, none⟩)] encStr (fun ss => ss.Perm (strKeys D)) (Maps.size D) w :=
    AnyZ.keys_gives (ρ := Try.keysG_ren) { Try.keysG with } Fence.wide _ trivial rfl (by omega) b _ _ D w hb.1 (by simpa using c2) hown
  have hcall := AnyZ.sorted_in Try.sortedS Fence.wide 5 trivial trivial trivial trivial rfl (by omega) (Try.sortsS _) (enters_of Try.func64 (by kernel_rfl) rfl) 65 #[.pointer (some ⟨b, 0, none⟩)] trivial (enters_of Try.func65 (by kernel_rfl) rfl) _ _ (by rw [hsz]; omega) (by rw [hsz]; omega) w hseq
  refine (callsIn_wide.1 hcall).mono ?_
  rintro e w' ⟨v, ss, rfl, hS, hrow, hnil, hbel⟩
  have hrows : encS (sortB (ks L)) = (ss.mergeSort leB).map fun x => [PV.str ⟨x.toArray⟩] := by
    unfold encS sortB
    rw [List.map_map, mergeSort_of_perm (hS.trans hperm)]
    rfl
  rw [hrows] at hK
  rcases hrow.2 with ⟨rfl, hz⟩ | ⟨g0, cap, cur, rfl, hbase, hgb, r1, r2, r3, r4⟩
  · have hss : ss = [] := List.length_eq_zero_iff.1 hz
    subst hss
    rw [List.mergeSort_nil, List.map_nil] at hK
    have q := quiet_same h.new hbel
    exact ⟨_, _, S, g, rfl, hK, q.toFr, ⟨.slnil _ _, by simp [Tail]⟩, fun id cells hi => (h.objs id cells hi).quiet q, q.new⟩
  · have hlt : g0 < w'.heap.size := lt_of_heap hgb
    have q := quiet_below h.new hbel g0 hbase hlt
    refine ⟨_, _, S, _, rfl, hK, q.toFr, ⟨?_, by simp [Tail]⟩, fun id cells hi => (h.objs id cells hi).quiet q, q.new⟩
    have hlen : ss.length = ((ss.mergeSort leB).map fun x => [PV.str ⟨x.toArray⟩]).length := by simp
    rw [Nat.mul_one] at r4
    have hcell : ∀ (j : Nat) (x : List UInt8), (ss.mergeSort leB)[j]? = some x → w'.cell? ⟨g0, 0 + (j * 1 + 0), none⟩ = some (encStr x) := by
      intro j x hj
      have h1 : ((ss.mergeSort leB).map encStr)[j]? = some (encStr x) := by rw [List.getElem?_map, hj]; rfl
      rw [← r4] at h1
      have h2 : cur.toList[j]? = some (encStr x) := by
        rw [List.getElem?_take] at h1
        split at h1
        · exact h1
        · cases h1
      unfold World.cell?
      dsimp only
      rw [hgb]
      simpa using h2
    rw [hlen]
    refine .sl (fun j _ => encStr ((ss.mergeSort leB).getD j [])) (by rw [← hlen]; exact r1) ?_ ?_ ?_
    · intro j c hj
      rw [List.getElem?_map] at hj
      cases hx : (ss.mergeSort leB)[j]? with
      | none => rw [hx] at hj; cases hj
      | some x => rw [hx] at hj; injection hj with hj; rw [← hj]; rfl
    · intro j c k v hj hkv
      rw [List.getElem?_map] at hj
      cases hx : (ss.mergeSort leB)[j]? with
      | none => rw [hx] at hj; cases hj
      | some x =>
        rw [hx] at hj; injection hj with hj
        subst hj
        cases k with
        | zero =>
          refine ⟨by simp [Gh.mark], ?_, rfl⟩
          rw [hcell j x hx, List.getD_eq_getElem?_getD, hx]; rfl
        | succ n => simp at hkv
    · intro j c k v hj hkv
      rw [List.getElem?_map] at hj
      cases hx : (ss.mergeSort leB)[j]? with
      | none => rw [hx] at hj; cases hj
      | some x =>
        rw [hx] at hj; injection hj with hj
        subst hj
        cases k with
        | zero =>
          simp only [List.getElem?_cons_zero, Option.some.injEq] at hkv
          subst hkv
          rw [List.getD_eq_getElem?_getD, hx]
          exact .str _
        | succ n => simp at hkv
theorem keysB_calls (gid : Nat) (S : Store) (K : PV → Store → Prop) (hK : ∀ b, K (.fn (.func 66) [] [.nq b 0 [.mref gid]]) S) : PCalls Try.prog 51 [.mref gid] S K := by
  refine ⟨⟨_, Try.func51, rfl, rfl⟩, fun g w rargs h => ?_⟩
  obtain ⟨e0, rfl⟩ : ∃ v0, rargs = #[v0] := by
    have := h.size
    match rargs, this with
    | ⟨[v0]⟩, _ => exact ⟨v0, rfl⟩
  have h0 := (h.slots 0 (by simp)).rel
  simp only [argEnv, List.getD_cons_zero, Array.getD] at h0
  cases h0
  rename_i hid hk
  refine (callsIn_wide.1 (AnyZ.keys_in Try.keysB Fence.wide 5 trivial rfl _ w)).mono ?_
  rintro e w' ⟨rfl, rfl⟩
  have q := Quiet.alloc h.new (.cells #[.map (some (g.loc gid).1)] 109) (fun _ => Lab.frozen)
  refine ⟨_, _, S, g.mark w.heap.size (fun _ => .frozen), rfl, hK w.heap.size, q.toFr, ⟨?_, by simp [Tail]⟩, fun id cells hi => (h.objs id cells hi).quiet q, q.new⟩
  refine .fn rfl rfl (fun k v rv hx => by simp at hx) ?_
  intro k v rv hv hrv
  obtain ⟨rfl, rfl⟩ : k = 0 ∧ v = .nq w.heap.size 0 [.mref gid] := by
    cases k with
    | zero => simp at hv; exact ⟨rfl, hv.symm⟩
    | succ n => simp at hv
  simp only [List.getElem?_toArray, List.getElem?_cons_zero, Option.some.injEq] at hrv
  subst hrv
  refine .nq (fun _ => .map (some (g.loc gid).1)) ⟨by simp, fun o => ?_⟩ ?_ ?_
  · exact World.frozen?_alloc_at _ _ _ _ rfl
  · intro k v hk'
    cases k with
    | zero => exact ⟨by simp [Gh.mark], World.cell?_alloc_at _ _ _ _ rfl, rfl⟩
    | succ n => simp at hk'
  · intro k v hk'
    cases k with
    | zero =>
      simp at hk'
      subst hk'
      exact (Rel.mref hid hk).mono q.toFr
    | succ n => simp at hk'
theorem sortedB_spec {S : Store} {gid cl : Nat} {st : List (Nat × ByteArray)} {L : AL} (hM : MC S gid cl st L) (hL : L.length ≤ 1000000) (hk : ∀ k ∈ ks L, k.size ≤ 1000000) (hn : (ks L).Nodup) (b : Nat) :
    PRet Try.prog 49 [.fn (.func 66) [] [.nq b 0 [.mref gid]]] S (.sl .no 1 (encS (sortB (ks L)))) := by
  intro K hK
  refine ⟨⟨_, Try.func49, rfl, rfl⟩, fun g w rargs h => ?_⟩
  obtain ⟨e0, rfl⟩ : ∃ v0, rargs = #[v0] := by
    have := h.size
    match rargs, this with
    | ⟨[v0]⟩, _ => exact ⟨v0, rfl⟩
  have h0 := (h.slots 0 (by simp)).rel
  simp only [argEnv, List.getD_cons_zero, Array.getD] at h0
  cases h0 with
  | @fn _ _ _ vs us hl hm hr hs =>
  obtain rfl : vs = #[] := Array.eq_empty_of_size_eq_zero hl.symm
  obtain ⟨u, rfl⟩ : ∃ u, us = #[u] := by
    match us, hm with
    | ⟨[v0]⟩, _ => exact ⟨v0, rfl⟩
  have hu := hs 0 _ _ rfl rfl
  cases hu with
  | @nq _ _ _ f hb hc hf =>
  obtain ⟨c1, c2, c3⟩ := hc 0 _ rfl
  have hf0 := hf 0 _ rfl
  generalize hfv : f 0 = fv at hf0 c2
  cases hf0 with
  | mref hid hkn =>
  obtain ⟨D, hown, hsz, hperm⟩ := owns_of hM hL hk hn ((h.objs gid _ hM.some).mp hkn)
  have hmax : (1000000 : Nat) ≤ maxLen := by decide
  have hseq : SeqGives Fence.wide 2 Try.prog 66 #[.pointer (some ⟨b, 0, none⟩)] encStr (fun ss => ss.Perm (strKeys D)) (Maps.size D) w :=
    AnyZ.keys_gives (ρ := Try.keysB_ren) { Try.keysB with } Fence.wide _ trivial rfl (by omega) b _ _ D w hb.1 (by simpa using c2) hown
  have hcall := AnyZ.sorted_in Try.sortedS Fence.wide 5 trivial trivial trivial trivial rfl (by omega) (Try.sortsS _) (enters_of Try.func64 (by kernel_rfl) rfl) 66 #[.pointer (some ⟨b, 0, none⟩)] trivial (enters_of Try.func66 (by kernel_rfl) rfl) _ _ (by rw [hsz]; omega) (by rw [hsz]; omega) w hseq
  refine (callsIn_wide.1 hcall).mono ?_
  rintro e w' ⟨v, ss, rfl, hS, hrow, hnil, hbel⟩
  have hrows : encS (sortB (ks L)) = (ss.mergeSort leB).map fun x => [PV.str ⟨x.toArray⟩] := by
    unfold encS sortB
    rw [List.map_map, mergeSort_of_perm (hS.trans hperm)]
    rfl
  rw [hrows] at hK
  rcases hrow.2 with ⟨rfl, hz⟩ | ⟨g0, cap, cur, rfl, hbase, hgb, r1, r2, r3, r4⟩
  · have hss : ss = [] := List.length_eq_zero_iff.1 hz
    subst hss
    rw [List.mergeSort_nil, List.map_nil] at hK
    have q := quiet_same h.new hbel
    exact ⟨_, _, S, g, rfl, hK, q.toFr, ⟨.slnil _ _, by simp [Tail]⟩, fun id cells hi => (h.objs id cells hi).quiet q, q.new⟩
  · have hlt : g0 < w'.heap.size := lt_of_heap hgb
    have q := quiet_below h.new hbel g0 hbase hlt
    refine ⟨_, _, S, _, rfl, hK, q.toFr, ⟨?_, by simp [Tail]⟩, fun id cells hi => (h.objs id cells hi).quiet q, q.new⟩
    have hlen : ss.length = ((ss.mergeSort leB).map fun x => [PV.str ⟨x.toArray⟩]).length := by simp
    rw [Nat.mul_one] at r4
    have hcell : ∀ (j : Nat) (x : List UInt8), (ss.mergeSort leB)[j]? = some x → w'.cell? ⟨g0, 0 + (j * 1 + 0), none⟩ = some (encStr x) := by
      intro j x hj
      have h1 : ((ss.mergeSort leB).map encStr)[j]? = some (encStr x) := by rw [List.getElem?_map, hj]; rfl
      rw [← r4] at h1
      have h2 : cur.toList[j]? = some (encStr x) := by
        rw [List.getElem?_take] at h1
        split at h1
        · exact h1
        · cases h1
      unfold World.cell?
      dsimp only
      rw [hgb]
      simpa using h2
    rw [hlen]
    refine .sl (fun j _ => encStr ((ss.mergeSort leB).getD j [])) (by rw [← hlen]; exact r1) ?_ ?_ ?_
    · intro j c hj
      rw [List.getElem?_map] at hj
      cases hx : (ss.mergeSort leB)[j]? with
      | none => rw [hx] at hj; cases hj
      | some x => rw [hx] at hj; injection hj with hj; rw [← hj]; rfl
    · intro j c k v hj hkv
      rw [List.getElem?_map] at hj
      cases hx : (ss.mergeSort leB)[j]? with
      | none => rw [hx] at hj; cases hj
      | some x =>
        rw [hx] at hj; injection hj with hj
        subst hj
        cases k with
        | zero =>
          refine ⟨by simp [Gh.mark], ?_, rfl⟩
          rw [hcell j x hx, List.getD_eq_getElem?_getD, hx]; rfl
        | succ n => simp at hkv
    · intro j c k v hj hkv
      rw [List.getElem?_map] at hj
      cases hx : (ss.mergeSort leB)[j]? with
      | none => rw [hx] at hj; cases hj
      | some x =>
        rw [hx] at hj; injection hj with hj
        subst hj
        cases k with
        | zero =>
          simp only [List.getElem?_cons_zero, Option.some.injEq] at hkv
          subst hkv
          rw [List.getD_eq_getElem?_getD, hx]
          exact .str _
        | succ n => simp at hkv
end Ytdioedabjaaboaa.V
end Go.Proofs
