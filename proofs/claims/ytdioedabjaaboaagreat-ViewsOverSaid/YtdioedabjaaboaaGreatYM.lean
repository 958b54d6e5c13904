/- Views: rows whose keys are arrays of one's own. -/
import Derived.Test.YtdioedabjaaboaaGreatYJ
set_option linter.unusedVariables false
set_option linter.unusedSimpArgs false
namespace Go.Proofs
open Go.RowKit Go.Maps Go.Sort Go.Shelf
namespace YtdioedabjaaboaaGreat.V
open Go Go.VL

theorem quiet_moreB {g : Gh} {w w' : World} (hn : ∀ b o, w.heap.size ≤ b → g.lab b o = .free) (h : Below w.heap.size w w') (b0 : Nat) (h0 : w.heap.size ≤ b0) (h1 : b0 < w'.heap.size) : Quiet g (g.more b0) w w' where
 os := h.os
 tape := h.tape
 output := h.output
 size := h.size
 frozen b o hl := by
  have : b ≠ b0 := fun e => by have := hn b o (by omega); rw [this] at hl; cases hl
  simpa [Gh.more, this] using hl
 foreign b o hl := by
  have : b ≠ b0 := fun e => by have := hn b o (by omega); rw [this] at hl; cases hl
  simpa [Gh.more, this] using hl
 own b o hb hl := by
  have : b ≠ b0 := by omega
  simpa [Gh.more, this] using hl
 kept b o hb _ := h.cell (p := ⟨b, o, none⟩) hb
 mark b o hb := h.frozen (p := ⟨b, o, none⟩) hb
 some b o hs := by
  have hb := lt_of_isSome hs
  rw [h.cell (p := ⟨b, o, none⟩) hb]
  exact hs
 block b hb _ := h.block b hb
 loc id hi := by simp only [Gh.more]; rw [if_neg (by omega)]
 nxt := by simp [Gh.more]
 knd id hi := by simp only [Gh.more]; rw [if_neg (by omega)]
 same b o hb hl := by
  have : b ≠ b0 := by omega
  exact ⟨by simp [Gh.more, this], h.cell (p := ⟨b, o, none⟩) hb⟩
 new b o hb := by
  have : b ≠ b0 := by omega
  simpa [Gh.more, this] using hn b o (by have := h.size; omega)
 whole b hb := h.block b hb
def cellsS (l : List ByteArray) : List PV := l.map PV.str
theorem sortedBM_calls {S : Store} {gid cl : Nat} {st : List (Nat × ByteArray)} {L : AL} (hM : MC S gid cl st L) (hL : L.length ≤ 1000000) (hk : ∀ k ∈ ks L, k.size ≤ 1000000) (hn : (ks L).Nodup) (h0L : L ≠ []) (b : Nat) (K : PV → Store → Prop)
  (hK : ∀ id, S id = none → K (.arr .no id 0 (sortB (ks L)).length 1) (S.set id (some (cellsS (sortB (ks L)))))) :
  PCalls Tryz.prog 80 [.fn (.func 109) [] [.nq b 0 [.mref gid]]] S K := by
 refine ⟨⟨_, Tryz.func80, rfl, rfl⟩, fun g w rargs h => ?_⟩
 obtain ⟨e0, rfl⟩ : ∃ v0, rargs = #[v0] := by
  have := h.size
  match rargs, this with
  | ⟨[v0]⟩, _ => exact ⟨v0, rfl⟩
 have h0 := (h.slots 0 (by simp)).rel
 simp only [argEnv, List.getD_cons_zero, Array.getD] at h0
 cases h0 with
 | @fn _ _ _ vs us hl hm hr hs =>
 obtain rfl : vs = #[] := Array.eq_empty_of_size_eq_zero hl.symm
 obtain ⟨u, rfl⟩ : ∃ u, us = #[u] := by
  match us, hm with
  | ⟨[v0]⟩, _ => exact ⟨v0, rfl⟩
 have hu := hs 0 _ _ rfl rfl
 cases hu with
 | @nq _ _ _ f hb hc hf =>
 obtain ⟨c1, c2, c3⟩ := hc 0 _ rfl
 have hf0 := hf 0 _ rfl
 generalize hfv : f 0 = fv at hf0 c2
 cases hf0 with
 | mref hid hkn =>
 obtain ⟨D, hown, hsz, hperm⟩ := owns_of hM hL hk hn ((h.objs gid _ hM.some).mp hkn)
 have hmax : (1000000 : Nat) ≤ maxLen := by decide
 have hseq : SeqGives Fence.wide 2 Tryz.prog 109 #[.pointer (some ⟨b, 0, none⟩)] encStr (fun ss => ss.Perm (strKeys D)) (Maps.size D) w :=
  AnyZ.keys_gives (ρ := Tryz.keysB_ren) { Tryz.keysB with } Fence.wide _ trivial rfl (by omega) b _ _ D w hb.1 (by simpa using c2) hown
 have hcall := AnyZ.sorted_in Tryz.sortedS Fence.wide 5 trivial trivial trivial trivial rfl (by omega) (Tryz.sortsS _) (enters_of Tryz.func107 (by kernel_rfl) rfl) 109 #[.pointer (some ⟨b, 0, none⟩)] trivial (enters_of Tryz.func109 (by kernel_rfl) rfl) _ _ (by rw [hsz]; omega) (by rw [hsz]; omega) w hseq
 refine (callsIn_wide.1 hcall).mono ?_
 rintro e w' ⟨v, ss, rfl, hS, hrow, hnil, hbel⟩
 have hrows : sortB (ks L) = (ss.mergeSort leB).map fun x => ⟨x.toArray⟩ := by
  unfold sortB
  rw [mergeSort_of_perm (hS.trans hperm)]
 rw [hrows] at hK
 rcases hrow.2 with ⟨rfl, hz⟩ | ⟨g0, cap, cur, rfl, hbase, hgb, r1, r2, r3, r4⟩
 ·exfalso
  have h1 := (hS.trans hperm).length_eq
  unfold ks at h1
  rw [List.length_map, List.length_map, hz] at h1
  exact h0L (List.eq_nil_of_length_eq_zero h1.symm)
 ·have hlt : g0 < w'.heap.size := lt_of_heap hgb
  have q := quiet_moreB h.new hbel g0 hbase hlt
  have hS0 : S g.nxt = none := by
   cases hs : S g.nxt with
   | none => rfl
   | some cells => exact absurd (h.objs _ _ hs).lt (Nat.lt_irrefl _)
  have hl : (g.more g0).loc g.nxt = (g0, 0) := by simp [Gh.more]
  have hlen : ((ss.mergeSort leB).map fun x => (⟨x.toArray⟩ : ByteArray)).length = ss.length := by simp
  have hk2 := hK g.nxt hS0
  rw [hlen] at hk2
  rw [Nat.mul_one] at r4
  have hcell : ∀ (j : Nat) (x : List UInt8), (ss.mergeSort leB)[j]? = some x → w'.cell? ⟨g0, 0 + j, none⟩ = some (encStr x) := by
   intro j x hj
   have h1 : ((ss.mergeSort leB).map encStr)[j]? = some (encStr x) := by rw [List.getElem?_map, hj]; rfl
   rw [← r4] at h1
   have h2 : cur.toList[j]? = some (encStr x) := by
    rw [List.getElem?_take] at h1
    split at h1
    ·exact h1
    ·cases h1
   unfold World.cell?
   dsimp only
   rw [hgb]
   simpa using h2
  refine ⟨_, _, _, g.more g0, rfl, hk2, q.toFr, ⟨?_, by simp [Tail]⟩, fun id cells hi => ?_, q.new⟩
  ·have := @Rel.arr (g.more g0) w' .no g.nxt 0 ss.length 1 cap (by simp [Gh.more]) r1 (by simp [Gh.more])
   rw [hl] at this
   exact this
  ·simp only [Store.set] at hi
   split at hi
   ·rename_i heq
    subst heq
    injection hi with hi
    subst hi
    refine ⟨by simp [Gh.more], fun _ k v hk => ?_, fun hn => by simp [Gh.more] at hn⟩
    rw [hl]
    unfold cellsS at hk
    rw [List.getElem?_map, List.getElem?_map] at hk
    cases hx : (ss.mergeSort leB)[k]? with
    | none => rw [hx] at hk; cases hk
    | some x =>
     rw [hx] at hk
     injection hk with hk
     subst hk
     refine ⟨by simp [Gh.more], ?_, encStr x, hcell k x hx, rfl, .str _, trivial⟩
     unfold World.frozen?
     dsimp only
     rw [hgb]
     simp
   ·exact (h.objs id cells hi).quiet q
/-- Rows whose keys stand in arrays of one's own. -/
def encRM (f : ByteArray → Nat) (k1 : Bool) (r : RV) : List PV := [.str r.text, if k1 = true then .arr .no (f r.text) 0 r.keys.length 1 else .sl .no 1 [], .int .i64 r.n]
structure KeysAt (S S' : Store) (f : ByteArray → Nat) (R : List ByteArray) (keys : ByteArray → List ByteArray) : Prop where
 old : Sub' S S'
 new : ∀ g ∈ R, S (f g) = none ∧ S' (f g) = some (cellsS (keys g))
 inj : ∀ g ∈ R, ∀ g' ∈ R, f g = f g' → g = g'
def keysG (w : Wv) (P : List Pr) (g : ByteArray) : List ByteArray := sortB ((memG w g P).map Prod.fst)
def encRMs (w : Wv) (P : List Pr) (f : ByteArray → Nat) (T : List ByteArray) : List (List PV) := T.map fun g => encRM f (decide (w.kind = 1)) (rowOf w P g)
@[go_sem] theorem len_encRMs (w : Wv) (P : List Pr) (f : ByteArray → Nat) (T : List ByteArray) : (encRMs w P f T).length = T.length := by simp [encRMs]
noncomputable def texts (w : Wv) (P : List Pr) : List ByteArray := sortB (groups w P)
theorem texts_nodup (w : Wv) (P : List Pr) : (texts w P).Nodup := by
 have hn : (groups w P).Nodup := by unfold groups; exact nodup_dd
 unfold texts
 rw [sortB_nodup hn]
 exact asc_nodup (sortR_asc _)
theorem encRMs_congr {w : Wv} {P : List Pr} {f f' : ByteArray → Nat} {T : List ByteArray} (h : ∀ g ∈ T, f g = f' g) : encRMs w P f T = encRMs w P f' T := by
 unfold encRMs
 refine List.map_congr_left fun g hg => ?_
 unfold encRM
 have : (rowOf w P g).text = g := rfl
 rw [this, h g hg]
theorem take_app1 {α : Type} {l : List α} {k : Nat} {x : α} (h : l[k]? = some x) : l.take (k + 1) = l.take k ++ [x] := by rw [List.take_add_one, h]; rfl
theorem not_in_take {l : List ByteArray} (hn : l.Nodup) {k : Nat} {x : ByteArray} (h : l[k]? = some x) : x ∉ l.take k := by
 intro hx
 obtain ⟨j, hj⟩ := List.mem_iff_getElem?.1 hx
 have hjk : j < k := by
  have := (List.getElem?_eq_some_iff.1 hj).1
  rw [List.length_take] at this
  omega
 rw [List.getElem?_take_of_lt hjk] at hj
 have := (List.getElem?_inj (by rw [List.getElem?_eq_some_iff] at hj; exact hj.1) hn).1 (hj.trans h.symm)
 omega
theorem rowsM_calls {S : Store} {w : Wv} {gid : Nat} {P : List Pr} {kd : ByteArray → Nat} (h : Tab S w gid P kd) (hP : P.length ≤ 1000000) (hf : FitK P) (hn : (P.map Prod.fst).Nodup) (K : PV → Store → Prop)
  (hK : ∀ S' f, KeysAt S S' f (if w.kind = 1 then texts w P else []) (keysG w P) → K (.sl .tail 3 (encRMs w P f (texts w P))) S') :
  PCalls Tryz.prog 45 [.ip (encT w gid) 0] S K := by
 obtain ⟨cl, st, L, h1, h2, h3, h4⟩ := h.at
 have hmem : ∀ x, x ∈ ks L ↔ x ∈ groups w P := fun x => by
  rw [mem_groups]
  constructor
  ·intro hx
   obtain ⟨p, hp, he⟩ := List.mem_map.1 hx
   obtain ⟨a, b⟩ := p
   dsimp only at he
   subst he
   exact ((h4 _ _).1 hp).1
  ·intro hx
   exact List.mem_map.2 ⟨_, (h4 x _).2 ⟨hx, rfl⟩, rfl⟩
 have hperm : (ks L).Perm (groups w P) := perm_of_mem h2 nodup_dd hmem
 have hLlen : L.length ≤ 1000000 := by
  have := hperm.length_eq
  rw [ks, List.length_map] at this
  have := groups_len w P
  omega
 have hLk : ∀ k ∈ ks L, k.size ≤ 1000000 := by
  intro k hk
  obtain ⟨p, hp, he⟩ := memG_ne.1 (mem_groups.1 ((hmem k).1 hk))
  exact Nat.le_trans (fieldF_fit he) (hf p hp).2
 refine pcalls_of (C := C) (fun d => d == 3 || d == 51 || d == 2 || d == 56) (fun d => d == 7) Tryz.func45 rfl rfl (by simp [Tryz.f45]) ?_
 unfold encT
 simp -implicitDefEqProofs only [go_sem, ↓reduceIte, Nat.reduceEqDiff, Nat.reduceLT, Nat.reduceLeDiff, Nat.reduceAdd, Nat.reduceMul, Nat.reduceSub, reduceCtorEq, Nat.reduceMod, Nat.reduceBEq, Int.reduceBEq, Int.reduceBNe, Int.reduceToNat, Tryz.f45]
 refine keysG_calls gid S _ ?_
 intro b
 simp -implicitDefEqProofs only [go_sem, ↓reduceIte, Nat.reduceEqDiff, Nat.reduceLT, Nat.reduceLeDiff, Nat.reduceAdd, Nat.reduceMul, Nat.reduceSub, reduceCtorEq, Nat.reduceMod, Nat.reduceBEq, Int.reduceBEq, Int.reduceBNe, Int.reduceToNat]
 refine sortedG_spec h1 hLlen hLk h2 b _ ?_
 rw [sortB_perm hperm]
 have hlen : (sortB (groups w P)).length ≤ 1000000 := by
  rw [len_sortB]; have := groups_len w P; omega
 have hgm : ∀ x, x ∈ sortB (groups w P) → memG w x P ≠ [] := fun x hx => mem_groups.1 (mem_sortB.1 hx)
 have hTn := texts_nodup w P
 unfold texts at hK hTn
 obtain ⟨T, hT⟩ : ∃ T, T = sortB (groups w P) := ⟨_, rfl⟩
 rw [← hT] at hK hlen hgm hTn ⊢
 simp -implicitDefEqProofs only [go_sem, ↓reduceIte, Nat.reduceEqDiff, Nat.reduceLT, Nat.reduceLeDiff, Nat.reduceAdd, Nat.reduceMul, Nat.reduceSub, reduceCtorEq, Nat.reduceMod, Nat.reduceBEq, Int.reduceBEq, Int.reduceBNe, Int.reduceToNat]
 refine vloop (fun e S' => ∃ (k : Nat) (f : ByteArray → Nat), k ≤ T.length ∧ KeysAt S S' f (if w.kind = 1 then T.take k else []) (keysG w P) ∧ e 0 = .ip (encT w gid) 0 ∧ e 3 = .sl .tail 3 (encRMs w P f (T.take k)) ∧ e 13 = .sl .no 1 (encS T) ∧ e 14 = .int .i64 T.length ∧ e 15 = .int .i64 k) (fun e _ => T.length - iv (e 15)) ?_ ?_
 ·refine ⟨0, fun _ => 0, Nat.zero_le _, ⟨fun _ _ h => h, ?_, ?_⟩, rfl, rfl, rfl, rfl, rfl⟩
  ·intro g hg; split at hg <;> cases hg
  ·intro g hg; split at hg <;> cases hg
 ·rintro J M Q' hJ hM hQ e S' ⟨k, f, hk, hka, e0, e3, e13, e14, e15⟩
  by_cases hlt : k < T.length
  ·obtain ⟨t, ht⟩ : ∃ t, T[k]? = some t := ⟨T[k], List.getElem?_eq_getElem hlt⟩
   have hlti : (k : Int) < (T.length : Int) := by omega
   have h0 : (0 : Int) ≤ (k : Int) ∧ (k : Int) < (T.length : Int) := by omega
   have hw : IntKind.i64.wrap ((k : Int) + 1) = ((k + 1 : Nat) : Int) := wrap64 (by omega) (by omega)
   have hg := hgm t (List.mem_of_getElem? ht)
   have hl := h3 t
   rw [if_pos hg] at hl
   unfold gv at hl
   obtain ⟨n1, c1, s1, kl, m1, p1⟩ := h.sub t hg
   have hkl : kl.length = (memG w t P).length := by rw [p1.length_eq, List.length_map]
   have hs1 : s1.length = (memG w t P).length := by rw [m1.len, List.length_map, hkl]
   have hnm : (kl.map kv1).length ≤ 1000000 := by
    rw [List.length_map, hkl]
    exact Nat.le_trans (List.length_filter_le _ _) hP
   have hks : ks (kl.map kv1) = kl := by unfold ks kv1; rw [List.map_map]; exact List.map_id' kl
   have hknd : kl.Nodup := (p1.nodup_iff).2 (((List.filter_sublist).map Prod.fst).nodup hn)
   have hkz : ∀ x ∈ ks (kl.map kv1), x.size ≤ 1000000 := by
    intro x hx
    rw [hks] at hx
    obtain ⟨p, hp, rfl⟩ := List.mem_map.1 (p1.mem_iff.1 hx)
    exact (hf p (List.mem_filter.1 hp).1).1
   have hap : ((T.take k).length + 1) * 48 ≤ 140737488355328 ∧ (T.take k).length ≤ 140737488355327 := by
    rw [List.length_take]; omega
   have h1' : MC S' gid cl st L := h1.eq (by rw [hka.old _ _ h1.some, h1.some])
   have m1' : MC S' (kd t) c1 s1 (kl.map kv1) := m1.eq (by rw [hka.old _ _ m1.some, m1.some])
   unfold encT at e0
   simp -implicitDefEqProofs only [go_sem, ↓reduceIte, Nat.reduceEqDiff, Nat.reduceLT, Nat.reduceLeDiff, Nat.reduceAdd, Nat.reduceMul, Nat.reduceSub, reduceCtorEq, Nat.reduceMod, Nat.reduceBEq, Int.reduceBEq, Int.reduceBNe, Int.reduceToNat, e0, e3, e13, e14, e15, hlti, h0, Int.toNat_natCast, getD_encS ht, h1'.at_, h1'.look, hl, Option.getD_some, m1'.at_, hs1]
   intro xid hx
   have hx7 : ∀ c, (S'.set xid c) xid = c := fun c => set_at _ _ _
   by_cases k1 : w.kind = 1
   ·have d1 : (w.kind == 1) = true := by rw [k1]; rfl
    have k3 : ¬ w.kind = 3 := by omega
    have hne : kd t ≠ xid := fun he => by have := m1'.some; rw [he, hx] at this; cases this
    have hkne : kl.map kv1 ≠ [] := fun he => by
     have : kl.length = 0 := by have := congrArg List.length he; simpa using this
     rw [hkl] at this
     exact hg (List.eq_nil_of_length_eq_zero this)
    simp -implicitDefEqProofs only [go_sem, ↓reduceIte, Nat.reduceEqDiff, Nat.reduceLT, Nat.reduceLeDiff, Nat.reduceAdd, Nat.reduceMul, Nat.reduceSub, reduceCtorEq, Nat.reduceMod, Nat.reduceBEq, Int.reduceBEq, Int.reduceBNe, Int.reduceToNat, d1, m1'.at_]
    refine keysB_calls (kd t) _ _ ?_
    intro b2
    simp -implicitDefEqProofs only [go_sem, ↓reduceIte, Nat.reduceEqDiff, Nat.reduceLT, Nat.reduceLeDiff, Nat.reduceAdd, Nat.reduceMul, Nat.reduceSub, reduceCtorEq, Nat.reduceMod, Nat.reduceBEq, Int.reduceBEq, Int.reduceBNe, Int.reduceToNat]
    refine sortedBM_calls (m1'.eq (S' := S'.set xid (some [PV.str t, PV.sl Fl.no 1 [], PV.int IntKind.i64 ↑(memG w t P).length])) (Go.VL.set_ne hne)) hnm hkz (by rw [hks]; exact hknd) hkne b2 _ ?_
    intro nid hnid
    have hnx : nid ≠ xid := fun he => by rw [he, set_at] at hnid; cases hnid
    have hn0 : S' nid = none := by rw [Go.VL.set_ne hnx] at hnid; exact hnid
    have hxn : ∀ c d, ((S'.set xid c).set nid d) xid = c := fun c d => by rw [Go.VL.set_ne (Ne.symm hnx), set_at]
    rw [hks, sortB_perm p1]
    rw [if_pos k1] at hka
    have hkey : KeysAt S (S'.set nid (some (cellsS (keysG w P t)))) (fun x => if x = t then nid else f x) (T.take (k + 1)) (keysG w P) := by
     have hnt := not_in_take hTn ht
     have hne2 : ∀ g ∈ T.take k, f g ≠ nid := fun g hg he => by
      have := (hka.new g hg).2
      rw [he, hn0] at this; cases this
     have hSn : S nid = none := by
      cases hs : S nid with
      | none => rfl
      | some c => rw [hka.old _ _ hs] at hn0; cases hn0
     refine ⟨fun id c hid => by rw [Go.VL.set_ne (fun he => by rw [he, hSn] at hid; cases hid)]; exact hka.old _ _ hid, ?_, ?_⟩
     ·intro g hg
      rw [take_app1 ht] at hg
      rcases List.mem_append.1 hg with hg | hg
      ·have hgt : g ≠ t := fun he => hnt (he ▸ hg)
       rw [if_neg hgt, Go.VL.set_ne (hne2 g hg)]
       exact hka.new g hg
      ·rw [List.mem_singleton] at hg
       subst hg
       rw [if_pos rfl, set_at]
       exact ⟨hSn, rfl⟩
     ·intro g hg g' hg' he
      rw [take_app1 ht] at hg hg'
      rcases List.mem_append.1 hg with hg | hg <;> rcases List.mem_append.1 hg' with hg' | hg'
      ·have hgt : g ≠ t := fun he => hnt (he ▸ hg)
       have hgt' : g' ≠ t := fun he => hnt (he ▸ hg')
       rw [if_neg hgt, if_neg hgt'] at he
       exact hka.inj g hg g' hg' he
      ·rw [List.mem_singleton] at hg'
       have hgt : g ≠ t := fun he => hnt (he ▸ hg)
       rw [if_neg hgt, if_pos hg'] at he
       exact absurd he (hne2 g hg)
      ·rw [List.mem_singleton] at hg
       have hgt : g' ≠ t := fun he => hnt (he ▸ hg')
       rw [if_neg hgt, if_pos hg] at he
       exact absurd he.symm (hne2 g' hg')
      ·rw [List.mem_singleton] at hg hg'
       rw [hg, hg']
    have hcong : encRMs w P f (T.take k) = encRMs w P (fun x => if x = t then nid else f x) (T.take k) := encRMs_congr fun g hg => by
     have hgt : g ≠ t := fun he => not_in_take hTn ht (he ▸ hg)
     rw [if_neg hgt]
    have hlen2 : (sortB (List.map Prod.fst (memG w t P))).length = (memG w t P).length := by rw [len_sortB, List.length_map]
    simp -implicitDefEqProofs only [go_sem, ↓reduceIte, Nat.reduceEqDiff, Nat.reduceLT, Nat.reduceLeDiff, Nat.reduceAdd, Nat.reduceMul, Nat.reduceSub, reduceCtorEq, Nat.reduceMod, Nat.reduceBEq, Int.reduceBEq, Int.reduceBNe, Int.reduceToNat, hxn, psplice, set_set, e3, e15, hap, hw, hlen2]
    refine vnext hJ hM (S'.set nid (some (cellsS (keysG w P t)))) (fun id c h => ?_) ⟨k + 1, (fun x => if x = t then nid else f x), hlt, by rw [if_pos k1]; exact hkey, ?_, ?_, ?_, ?_, ?_⟩ ?_
    ·by_cases hid : id = nid
     ·subst hid
      rw [set_at] at h
      rw [Go.VL.set_ne hnx, set_at]
      exact h
     ·rw [Go.VL.set_ne hid] at h
      have hidx : id ≠ xid := fun he => by rw [he, hx] at h; cases h
      rw [Go.VL.set_ne hidx, Go.VL.set_ne hid, Go.VL.set_ne hidx]
      exact h
    ·unfold encT; simp -implicitDefEqProofs only [go_sem, ↓reduceIte, Nat.reduceEqDiff, Nat.reduceLT, Nat.reduceLeDiff, Nat.reduceAdd, Nat.reduceMul, Nat.reduceSub, reduceCtorEq, Nat.reduceMod, Nat.reduceBEq, Int.reduceBEq, Int.reduceBNe, Int.reduceToNat, e0]
    ·simp -implicitDefEqProofs only [go_sem, ↓reduceIte, Nat.reduceEqDiff]
     rw [take_app1 ht, hcong]
     unfold encRMs encRM rowOf
     simp only [List.map_append, List.map_cons, List.map_nil, k1, decide_true, if_true, hlen2, if_neg (show ¬ (1 : Int) = 3 by decide)]
    ·simp -implicitDefEqProofs only [go_sem, ↓reduceIte, Nat.reduceEqDiff, e13]
    ·simp -implicitDefEqProofs only [go_sem, ↓reduceIte, Nat.reduceEqDiff, e14]
    ·simp -implicitDefEqProofs only [go_sem, ↓reduceIte, Nat.reduceEqDiff]
    ·simp -implicitDefEqProofs only [go_sem, ↓reduceIte, Nat.reduceEqDiff, e15, Int.toNat_natCast]
     omega
   ·have d1 : (w.kind == 1) = false := beq_eq_false_iff_ne.2 k1
    rw [if_neg k1] at hka
    have hback : ∀ id c, S' id = some c → ∀ c2, (S'.set xid c2) id = some c := fun id c h c2 => by rw [Go.VL.set_ne (fun he => by rw [he, hx] at h; cases h)]; exact h
    have hrow : encRMs w P f (T.take (k + 1)) = encRMs w P f (T.take k) ++ [[.str t, .sl .no 1 [], .int .i64 (rowOf w P t).n]] := by
     rw [take_app1 ht]
     unfold encRMs encRM
     rw [List.map_append, List.map_cons, List.map_nil]
     have : (rowOf w P t).text = t := rfl
     rw [this, decide_eq_false k1]
     rfl
    by_cases k3 : w.kind = 3
    ·have d3 : (w.kind == 3) = true := by rw [k3]; rfl
     simp -implicitDefEqProofs only [go_sem, ↓reduceIte, Nat.reduceEqDiff, Nat.reduceLT, Nat.reduceLeDiff, Nat.reduceAdd, Nat.reduceMul, Nat.reduceSub, reduceCtorEq, Nat.reduceMod, Nat.reduceBEq, Int.reduceBEq, Int.reduceBNe, Int.reduceToNat, d1, d3]
     refine whole_spec _ _ _ ?_
     cases hfit : fitF (sumOf w (memG w t P))
     ·have hrn : (rowOf w P t).n = 0 := by unfold rowOf; simp only [if_pos k3, hfit, Bool.false_eq_true, if_false]
      rw [hrn] at hrow
      simp -implicitDefEqProofs only [go_sem, ↓reduceIte, Nat.reduceEqDiff, Nat.reduceLT, Nat.reduceLeDiff, Nat.reduceAdd, Nat.reduceMul, Nat.reduceSub, reduceCtorEq, Nat.reduceMod, Nat.reduceBEq, Int.reduceBEq, Int.reduceBNe, Int.reduceToNat, Bool.false_eq_true, hx7, psplice, set_set, e3, e15, hap, hw]
      refine vnext hJ hM S' (fun id c h => hback id c h _) ⟨k + 1, f, hlt, by rw [if_neg k1]; exact hka, ?_, ?_, ?_, ?_, ?_⟩ ?_
      ·unfold encT; simp -implicitDefEqProofs only [go_sem, ↓reduceIte, Nat.reduceEqDiff, Nat.reduceLT, Nat.reduceLeDiff, Nat.reduceAdd, Nat.reduceMul, Nat.reduceSub, reduceCtorEq, Nat.reduceMod, Nat.reduceBEq, Int.reduceBEq, Int.reduceBNe, Int.reduceToNat, e0]
      ·simp -implicitDefEqProofs only [go_sem, ↓reduceIte, Nat.reduceEqDiff, hrow]
      ·simp -implicitDefEqProofs only [go_sem, ↓reduceIte, Nat.reduceEqDiff, e13]
      ·simp -implicitDefEqProofs only [go_sem, ↓reduceIte, Nat.reduceEqDiff, e14]
      ·simp -implicitDefEqProofs only [go_sem, ↓reduceIte, Nat.reduceEqDiff]
      ·simp -implicitDefEqProofs only [go_sem, ↓reduceIte, Nat.reduceEqDiff, e15, Int.toNat_natCast]
       omega
     ·have hrn : (rowOf w P t).n = valF (sumOf w (memG w t P)) := by unfold rowOf; simp only [if_pos k3, hfit, if_true]
      rw [hrn] at hrow
      simp -implicitDefEqProofs only [go_sem, ↓reduceIte, Nat.reduceEqDiff, Nat.reduceLT, Nat.reduceLeDiff, Nat.reduceAdd, Nat.reduceMul, Nat.reduceSub, reduceCtorEq, Nat.reduceMod, Nat.reduceBEq, Int.reduceBEq, Int.reduceBNe, Int.reduceToNat, hx7, psplice, set_set, e3, e15, hap, hw]
      refine vnext hJ hM S' (fun id c h => hback id c h _) ⟨k + 1, f, hlt, by rw [if_neg k1]; exact hka, ?_, ?_, ?_, ?_, ?_⟩ ?_
      ·unfold encT; simp -implicitDefEqProofs only [go_sem, ↓reduceIte, Nat.reduceEqDiff, Nat.reduceLT, Nat.reduceLeDiff, Nat.reduceAdd, Nat.reduceMul, Nat.reduceSub, reduceCtorEq, Nat.reduceMod, Nat.reduceBEq, Int.reduceBEq, Int.reduceBNe, Int.reduceToNat, e0]
      ·simp -implicitDefEqProofs only [go_sem, ↓reduceIte, Nat.reduceEqDiff, hrow]
      ·simp -implicitDefEqProofs only [go_sem, ↓reduceIte, Nat.reduceEqDiff, e13]
      ·simp -implicitDefEqProofs only [go_sem, ↓reduceIte, Nat.reduceEqDiff, e14]
      ·simp -implicitDefEqProofs only [go_sem, ↓reduceIte, Nat.reduceEqDiff]
      ·simp -implicitDefEqProofs only [go_sem, ↓reduceIte, Nat.reduceEqDiff, e15, Int.toNat_natCast]
       omega
    ·have d3 : (w.kind == 3) = false := beq_eq_false_iff_ne.2 k3
     have hrn : (rowOf w P t).n = (memG w t P).length := by unfold rowOf; simp only [if_neg k3]
     rw [hrn] at hrow
     simp -implicitDefEqProofs only [go_sem, ↓reduceIte, Nat.reduceEqDiff, Nat.reduceLT, Nat.reduceLeDiff, Nat.reduceAdd, Nat.reduceMul, Nat.reduceSub, reduceCtorEq, Nat.reduceMod, Nat.reduceBEq, Int.reduceBEq, Int.reduceBNe, Int.reduceToNat, d1, d3, hx7, psplice, set_set, e3, e15, hap, hw]
     refine vnext hJ hM S' (fun id c h => hback id c h _) ⟨k + 1, f, hlt, by rw [if_neg k1]; exact hka, ?_, ?_, ?_, ?_, ?_⟩ ?_
     ·unfold encT; simp -implicitDefEqProofs only [go_sem, ↓reduceIte, Nat.reduceEqDiff, Nat.reduceLT, Nat.reduceLeDiff, Nat.reduceAdd, Nat.reduceMul, Nat.reduceSub, reduceCtorEq, Nat.reduceMod, Nat.reduceBEq, Int.reduceBEq, Int.reduceBNe, Int.reduceToNat, e0]
     ·simp -implicitDefEqProofs only [go_sem, ↓reduceIte, Nat.reduceEqDiff, hrow]
     ·simp -implicitDefEqProofs only [go_sem, ↓reduceIte, Nat.reduceEqDiff, e13]
     ·simp -implicitDefEqProofs only [go_sem, ↓reduceIte, Nat.reduceEqDiff, e14]
     ·simp -implicitDefEqProofs only [go_sem, ↓reduceIte, Nat.reduceEqDiff]
     ·simp -implicitDefEqProofs only [go_sem, ↓reduceIte, Nat.reduceEqDiff, e15, Int.toNat_natCast]
      omega
  ·have hnl : ¬ (k : Int) < (T.length : Int) := by omega
   rw [List.take_of_length_le (by omega)] at e3 hka
   simp -implicitDefEqProofs only [go_sem, ↓reduceIte, Nat.reduceEqDiff, Nat.reduceLT, Nat.reduceLeDiff, Nat.reduceAdd, Nat.reduceMul, Nat.reduceSub, reduceCtorEq, Nat.reduceMod, Nat.reduceBEq, Int.reduceBEq, Int.reduceBNe, Int.reduceToNat, e14, e15, hnl]
   refine hQ _ _ _ ?_
   simp -implicitDefEqProofs only [go_sem, ↓reduceIte, Nat.reduceEqDiff, Nat.reduceLT, Nat.reduceLeDiff, Nat.reduceAdd, Nat.reduceMul, Nat.reduceSub, reduceCtorEq, Nat.reduceMod, Nat.reduceBEq, Int.reduceBEq, Int.reduceBNe, Int.reduceToNat, e3]
   exact ⟨S', fun _ _ h => h, hK S' f hka⟩
end YtdioedabjaaboaaGreat.V
end Go.Proofs
