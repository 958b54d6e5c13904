/- Views: what a table tells. -/
import Derived.Test.YtdioedabjaaboaaGreatXK
set_option linter.unusedVariables false
set_option linter.unusedSimpArgs false
namespace Go.Proofs.YtdioedabjaaboaaGreat.V
open Go Go.VL

open Classical in
noncomputable def dd : List ByteArray → List ByteArray
 | [] => []
 | a :: l => if a ∈ l then dd l else a :: dd l
theorem mem_dd {x : ByteArray} : ∀ {l : List ByteArray}, x ∈ dd l ↔ x ∈ l
 | [] => by simp [dd]
 | a :: l => by
  unfold dd
  split
  ·rename_i h
   rw [mem_dd (l := l), List.mem_cons]
   constructor
   ·exact fun h => .inr h
   ·rintro (rfl | h2)
    ·exact h
    ·exact h2
  ·rw [List.mem_cons, List.mem_cons, mem_dd (l := l)]
theorem nodup_dd : ∀ {l : List ByteArray}, (dd l).Nodup
 | [] => by simp [dd]
 | a :: l => by
  unfold dd
  split
  ·exact nodup_dd
  ·rename_i h
   exact List.nodup_cons.2 ⟨fun hx => h (mem_dd.1 hx), nodup_dd⟩
theorem len_dd : ∀ (l : List ByteArray), (dd l).length ≤ l.length
 | [] => by simp [dd]
 | a :: l => by
  unfold dd
  split
  ·have := len_dd l; rw [List.length_cons]; omega
  ·have := len_dd l; rw [List.length_cons, List.length_cons]; omega
noncomputable def groups (w : Wv) (P : List Pr) : List ByteArray := dd (P.filterMap fun p => fieldF p.2 w.field)
theorem mem_groups {w : Wv} {P : List Pr} {g : ByteArray} : g ∈ groups w P ↔ memG w g P ≠ [] := by
 unfold groups
 rw [mem_dd, memG_ne, List.mem_filterMap]
theorem groups_len (w : Wv) (P : List Pr) : (groups w P).length ≤ P.length := Nat.le_trans (len_dd _) (List.length_filterMap_le _ _)
theorem perm_of_mem {l l' : List ByteArray} (h1 : l.Nodup) (h2 : l'.Nodup) (h : ∀ x, x ∈ l ↔ x ∈ l') : l.Perm l' := by
 induction l generalizing l' with
 | nil =>
  cases l' with
  | nil => exact List.Perm.refl _
  | cons b l' => exact absurd ((h b).2 List.mem_cons_self) (by simp)
 | cons a l ih =>
  have ha : a ∈ l' := (h a).1 List.mem_cons_self
  obtain ⟨p, q, rfl⟩ := List.append_of_mem ha
  rw [List.nodup_cons] at h1
  have h2' : (a :: (p ++ q)).Nodup := (List.perm_middle.nodup_iff).1 h2
  rw [List.nodup_cons] at h2'
  refine (List.Perm.cons a (ih h1.2 h2'.2 fun x => ?_)).trans List.perm_middle.symm
  constructor
  ·intro hx
   have := (h x).1 (List.mem_cons_of_mem _ hx)
   rw [List.mem_append, List.mem_cons] at this
   rw [List.mem_append]
   rcases this with h3 | h3 | h3
   ·exact .inl h3
   ·subst h3; exact absurd hx h1.1
   ·exact .inr h3
  ·intro hx
   have h4 : x ∈ p ++ a :: q := by
    rw [List.mem_append] at hx
    rw [List.mem_append, List.mem_cons]
    rcases hx with h3 | h3
    ·exact .inl h3
    ·exact .inr (.inr h3)
   have := (h x).2 h4
   rcases List.mem_cons.1 this with h3 | h3
   ·subst h3; exact absurd hx h2'.1
   ·exact h3
structure RV where
 text : ByteArray
 keys : List ByteArray
 n : Int
def encRV (r : RV) : List PV := [.str r.text, .sl .no 1 (encS r.keys), .int .i64 r.n]
def encRVs (l : List RV) : List (List PV) := l.map encRV
@[go_sem] theorem len_encRVs (l : List RV) : (encRVs l).length = l.length := by simp [encRVs]
def rowOf (w : Wv) (P : List Pr) (g : ByteArray) : RV :=
 ⟨g, if w.kind = 1 then sortB ((memG w g P).map Prod.fst) else [], if w.kind = 3 then (if fitF (sumOf w (memG w g P)) then valF (sumOf w (memG w g P)) else 0) else (memG w g P).length⟩
noncomputable def rowsOf (w : Wv) (P : List Pr) : List RV := (sortB (groups w P)).map (rowOf w P)
theorem len_sortB (l : List ByteArray) : (sortB l).length = l.length := by simp [sortB]
theorem mem_sortB {l : List ByteArray} {x : ByteArray} : x ∈ sortB l ↔ x ∈ l := by
 unfold sortB
 rw [List.mem_map]
 constructor
 ·rintro ⟨b, hb, rfl⟩
  rw [List.mem_mergeSort, List.mem_map] at hb
  obtain ⟨k, hk, rfl⟩ := hb
  exact hk
 ·intro hx
  exact ⟨x.data.toList, by rw [List.mem_mergeSort, List.mem_map]; exact ⟨x, hx, rfl⟩, rfl⟩
def FitK (P : List Pr) : Prop := ∀ p ∈ P, p.1.size ≤ 1000000 ∧ p.2.size ≤ 1000000
theorem encRVs_one (l : List RV) (a : ByteArray) (ks : List ByteArray) (n : Int) : encRVs l ++ [[.str a, .sl .no 1 (encS ks), .int .i64 n]] = encRVs (l ++ [⟨a, ks, n⟩]) := by simp [encRVs, encRV]
theorem encRVs_one0 (l : List RV) (a : ByteArray) (n : Int) : encRVs l ++ [[.str a, .sl .no 1 [], .int .i64 n]] = encRVs (l ++ [⟨a, [], n⟩]) := by simp [encRVs, encRV, encS]
theorem rows_spec {S : Store} {w : Wv} {gid : Nat} {P : List Pr} {kd : ByteArray → Nat} (h : Tab S w gid P kd) (hP : P.length ≤ 1000000) (hf : FitK P) (hn : (P.map Prod.fst).Nodup) :
  PRet Tryz.prog 45 [.ip (encT w gid) 0] S (.sl .tail 3 (encRVs (rowsOf w P))) := by
 intro K hK
 obtain ⟨cl, st, L, h1, h2, h3, h4⟩ := h.at
 have hmem : ∀ x, x ∈ ks L ↔ x ∈ groups w P := fun x => by
  rw [mem_groups]
  constructor
  ·intro hx
   obtain ⟨p, hp, he⟩ := List.mem_map.1 hx
   obtain ⟨a, b⟩ := p
   dsimp only at he
   subst he
   exact ((h4 _ _).1 hp).1
  ·intro hx
   exact List.mem_map.2 ⟨_, (h4 x _).2 ⟨hx, rfl⟩, rfl⟩
 have hperm : (ks L).Perm (groups w P) := perm_of_mem h2 nodup_dd hmem
 have hLlen : L.length ≤ 1000000 := by
  have := hperm.length_eq
  rw [ks, List.length_map] at this
  have := groups_len w P
  omega
 have hLk : ∀ k ∈ ks L, k.size ≤ 1000000 := by
  intro k hk
  obtain ⟨p, hp, he⟩ := memG_ne.1 (mem_groups.1 ((hmem k).1 hk))
  exact Nat.le_trans (fieldF_fit he) (hf p hp).2
 refine pcalls_of (C := C) (fun d => d == 3 || d == 51 || d == 2 || d == 56) (fun d => d == 7) Tryz.func45 rfl rfl (by simp [Tryz.f45]) ?_
 unfold encT
 simp -implicitDefEqProofs only [go_sem, ↓reduceIte, Nat.reduceEqDiff, Nat.reduceLT, Nat.reduceLeDiff, Nat.reduceAdd, Nat.reduceMul, Nat.reduceSub, reduceCtorEq, Nat.reduceMod, Nat.reduceBEq, Int.reduceBEq, Int.reduceBNe, Int.reduceToNat, Tryz.f45]
 refine keysG_calls gid S _ ?_
 intro b
 simp -implicitDefEqProofs only [go_sem, ↓reduceIte, Nat.reduceEqDiff, Nat.reduceLT, Nat.reduceLeDiff, Nat.reduceAdd, Nat.reduceMul, Nat.reduceSub, reduceCtorEq, Nat.reduceMod, Nat.reduceBEq, Int.reduceBEq, Int.reduceBNe, Int.reduceToNat]
 refine sortedG_spec h1 hLlen hLk h2 b _ ?_
 rw [sortB_perm hperm]
 have hlen : (sortB (groups w P)).length ≤ 1000000 := by
  rw [len_sortB]; have := groups_len w P; omega
 have hgm : ∀ x, x ∈ sortB (groups w P) → memG w x P ≠ [] := fun x hx => mem_groups.1 (mem_sortB.1 hx)
 unfold rowsOf at hK
 obtain ⟨T, hT⟩ : ∃ T, T = sortB (groups w P) := ⟨_, rfl⟩
 rw [← hT] at hK hlen hgm ⊢
 simp -implicitDefEqProofs only [go_sem, ↓reduceIte, Nat.reduceEqDiff, Nat.reduceLT, Nat.reduceLeDiff, Nat.reduceAdd, Nat.reduceMul, Nat.reduceSub, reduceCtorEq, Nat.reduceMod, Nat.reduceBEq, Int.reduceBEq, Int.reduceBNe, Int.reduceToNat]
 refine vloop (fun e S' => S' = S ∧ ∃ k : Nat, k ≤ T.length ∧ e 0 = .ip (encT w gid) 0 ∧ e 3 = .sl .tail 3 (encRVs ((T.take k).map (rowOf w P))) ∧ e 13 = .sl .no 1 (encS T) ∧ e 14 = .int .i64 T.length ∧ e 15 = .int .i64 k) (fun e _ => T.length - iv (e 15)) ?_ ?_
 ·exact ⟨rfl, 0, Nat.zero_le _, rfl, rfl, rfl, rfl, rfl⟩
 ·rintro J M Q' hJ hM hQ e S' ⟨rfl, k, hk, e0, e3, e13, e14, e15⟩
  by_cases hlt : k < T.length
  ·obtain ⟨t, ht⟩ : ∃ t, T[k]? = some t := ⟨T[k], List.getElem?_eq_getElem hlt⟩
   have hlti : (k : Int) < (T.length : Int) := by omega
   have h0 : (0 : Int) ≤ (k : Int) ∧ (k : Int) < (T.length : Int) := by omega
   have hw : IntKind.i64.wrap ((k : Int) + 1) = ((k + 1 : Nat) : Int) := wrap64 (by omega) (by omega)
   have hg := hgm t (List.mem_of_getElem? ht)
   have hl := h3 t
   rw [if_pos hg] at hl
   unfold gv at hl
   obtain ⟨n1, c1, s1, kl, m1, p1⟩ := h.sub t hg
   have hkl : kl.length = (memG w t P).length := by rw [p1.length_eq, List.length_map]
   have hs1 : s1.length = (memG w t P).length := by rw [m1.len, List.length_map, hkl]
   have htk : (T.take (k + 1)).map (rowOf w P) = (T.take k).map (rowOf w P) ++ [rowOf w P t] := by
    rw [List.take_add_one, ht]; simp
   have hnm : (kl.map kv1).length ≤ 1000000 := by
    rw [List.length_map, hkl]
    exact Nat.le_trans (List.length_filter_le _ _) hP
   have hks : ks (kl.map kv1) = kl := by unfold ks kv1; rw [List.map_map]; exact List.map_id' kl
   have hknd : kl.Nodup := (p1.nodup_iff).2 (((List.filter_sublist).map Prod.fst).nodup hn)
   have hkz : ∀ x ∈ ks (kl.map kv1), x.size ≤ 1000000 := by
    intro x hx
    rw [hks] at hx
    obtain ⟨p, hp, rfl⟩ := List.mem_map.1 (p1.mem_iff.1 hx)
    exact (hf p (List.mem_filter.1 hp).1).1
   have hap : ((((T.take k).map (rowOf w P)).length + 1) * 48 ≤ 140737488355328) ∧ ((T.take k).map (rowOf w P)).length + 1 ≤ 140737488355328 := by
    rw [List.length_map, List.length_take]; omega
   unfold encT at e0
   simp -implicitDefEqProofs only [go_sem, ↓reduceIte, Nat.reduceEqDiff, Nat.reduceLT, Nat.reduceLeDiff, Nat.reduceAdd, Nat.reduceMul, Nat.reduceSub, reduceCtorEq, Nat.reduceMod, Nat.reduceBEq, Int.reduceBEq, Int.reduceBNe, Int.reduceToNat, e0, e3, e13, e14, e15, hlti, h0, Int.toNat_natCast, getD_encS ht, h1.at_, h1.look, hl, Option.getD_some, m1.at_, hs1]
   intro xid hx
   have hx7 : ∀ c, (S'.set xid c) xid = c := fun c => set_at _ _ _
   by_cases k1 : w.kind = 1
   ·have d1 : (w.kind == 1) = true := by rw [k1]; rfl
    have k3 : ¬ w.kind = 3 := by omega
    have hne : kd t ≠ xid := fun he => by have := m1.some; rw [he, hx] at this; cases this
    simp -implicitDefEqProofs only [go_sem, ↓reduceIte, Nat.reduceEqDiff, Nat.reduceLT, Nat.reduceLeDiff, Nat.reduceAdd, Nat.reduceMul, Nat.reduceSub, reduceCtorEq, Nat.reduceMod, Nat.reduceBEq, Int.reduceBEq, Int.reduceBNe, Int.reduceToNat, d1, m1.at_]
    refine keysB_calls (kd t) _ _ ?_
    intro b2
    simp -implicitDefEqProofs only [go_sem, ↓reduceIte, Nat.reduceEqDiff, Nat.reduceLT, Nat.reduceLeDiff, Nat.reduceAdd, Nat.reduceMul, Nat.reduceSub, reduceCtorEq, Nat.reduceMod, Nat.reduceBEq, Int.reduceBEq, Int.reduceBNe, Int.reduceToNat]
    refine sortedB_spec (m1.eq (S' := S'.set xid (some [PV.str t, PV.sl Fl.no 1 [], PV.int IntKind.i64 ↑(memG w t P).length])) (Go.VL.set_ne hne)) hnm hkz (by rw [hks]; exact hknd) b2 _ ?_
    rw [hks, sortB_perm p1]
    simp -implicitDefEqProofs only [go_sem, ↓reduceIte, Nat.reduceEqDiff, Nat.reduceLT, Nat.reduceLeDiff, Nat.reduceAdd, Nat.reduceMul, Nat.reduceSub, reduceCtorEq, Nat.reduceMod, Nat.reduceBEq, Int.reduceBEq, Int.reduceBNe, Int.reduceToNat, hx7, psplice, set_set, e3, e15, hap, hw]
    refine vnext hJ hM S' (fun id c h => by rw [Go.VL.set_ne (fun he => by rw [he, hx] at h; cases h)]; exact h) ⟨rfl, k + 1, hlt, ?_, ?_, ?_, ?_, ?_⟩ ?_
    ·unfold encT; simp -implicitDefEqProofs only [go_sem, ↓reduceIte, Nat.reduceEqDiff, Nat.reduceLT, Nat.reduceLeDiff, Nat.reduceAdd, Nat.reduceMul, Nat.reduceSub, reduceCtorEq, Nat.reduceMod, Nat.reduceBEq, Int.reduceBEq, Int.reduceBNe, Int.reduceToNat, e0]
    ·simp -implicitDefEqProofs only [go_sem, ↓reduceIte, Nat.reduceEqDiff]; rw [encRVs_one, htk]; unfold rowOf; simp only [if_pos k1, if_neg k3]
    ·simp -implicitDefEqProofs only [go_sem, ↓reduceIte, Nat.reduceEqDiff, e13]
    ·simp -implicitDefEqProofs only [go_sem, ↓reduceIte, Nat.reduceEqDiff, e14]
    ·simp -implicitDefEqProofs only [go_sem, ↓reduceIte, Nat.reduceEqDiff]
    ·simp -implicitDefEqProofs only [go_sem, ↓reduceIte, Nat.reduceEqDiff, e15, Int.toNat_natCast]
     omega
   ·have d1 : (w.kind == 1) = false := beq_eq_false_iff_ne.2 k1
    by_cases k3 : w.kind = 3
    ·have d3 : (w.kind == 3) = true := by rw [k3]; rfl
     simp -implicitDefEqProofs only [go_sem, ↓reduceIte, Nat.reduceEqDiff, Nat.reduceLT, Nat.reduceLeDiff, Nat.reduceAdd, Nat.reduceMul, Nat.reduceSub, reduceCtorEq, Nat.reduceMod, Nat.reduceBEq, Int.reduceBEq, Int.reduceBNe, Int.reduceToNat, d1, d3]
     refine whole_spec _ _ _ ?_
     cases hfit : fitF (sumOf w (memG w t P))
     ·simp -implicitDefEqProofs only [go_sem, ↓reduceIte, Nat.reduceEqDiff, Nat.reduceLT, Nat.reduceLeDiff, Nat.reduceAdd, Nat.reduceMul, Nat.reduceSub, reduceCtorEq, Nat.reduceMod, Nat.reduceBEq, Int.reduceBEq, Int.reduceBNe, Int.reduceToNat, Bool.false_eq_true, hx7, psplice, set_set, e3, e15, hap, hw]
      refine vnext hJ hM S' (fun id c h => by rw [Go.VL.set_ne (fun he => by rw [he, hx] at h; cases h)]; exact h) ⟨rfl, k + 1, hlt, ?_, ?_, ?_, ?_, ?_⟩ ?_
      ·unfold encT; simp -implicitDefEqProofs only [go_sem, ↓reduceIte, Nat.reduceEqDiff, Nat.reduceLT, Nat.reduceLeDiff, Nat.reduceAdd, Nat.reduceMul, Nat.reduceSub, reduceCtorEq, Nat.reduceMod, Nat.reduceBEq, Int.reduceBEq, Int.reduceBNe, Int.reduceToNat, e0]
      ·simp -implicitDefEqProofs only [go_sem, ↓reduceIte, Nat.reduceEqDiff]; rw [encRVs_one0, htk]; unfold rowOf; simp only [if_neg k1, if_pos k3, hfit, Bool.false_eq_true, if_false, reduceIte]
      ·simp -implicitDefEqProofs only [go_sem, ↓reduceIte, Nat.reduceEqDiff, e13]
      ·simp -implicitDefEqProofs only [go_sem, ↓reduceIte, Nat.reduceEqDiff, e14]
      ·simp -implicitDefEqProofs only [go_sem, ↓reduceIte, Nat.reduceEqDiff]
      ·simp -implicitDefEqProofs only [go_sem, ↓reduceIte, Nat.reduceEqDiff, e15, Int.toNat_natCast]
       omega
     ·simp -implicitDefEqProofs only [go_sem, ↓reduceIte, Nat.reduceEqDiff, Nat.reduceLT, Nat.reduceLeDiff, Nat.reduceAdd, Nat.reduceMul, Nat.reduceSub, reduceCtorEq, Nat.reduceMod, Nat.reduceBEq, Int.reduceBEq, Int.reduceBNe, Int.reduceToNat, hx7, psplice, set_set, e3, e15, hap, hw]
      refine vnext hJ hM S' (fun id c h => by rw [Go.VL.set_ne (fun he => by rw [he, hx] at h; cases h)]; exact h) ⟨rfl, k + 1, hlt, ?_, ?_, ?_, ?_, ?_⟩ ?_
      ·unfold encT; simp -implicitDefEqProofs only [go_sem, ↓reduceIte, Nat.reduceEqDiff, Nat.reduceLT, Nat.reduceLeDiff, Nat.reduceAdd, Nat.reduceMul, Nat.reduceSub, reduceCtorEq, Nat.reduceMod, Nat.reduceBEq, Int.reduceBEq, Int.reduceBNe, Int.reduceToNat, e0]
      ·simp -implicitDefEqProofs only [go_sem, ↓reduceIte, Nat.reduceEqDiff]; rw [encRVs_one0, htk]; unfold rowOf; simp only [if_neg k1, if_pos k3, hfit, if_true, reduceIte]
      ·simp -implicitDefEqProofs only [go_sem, ↓reduceIte, Nat.reduceEqDiff, e13]
      ·simp -implicitDefEqProofs only [go_sem, ↓reduceIte, Nat.reduceEqDiff, e14]
      ·simp -implicitDefEqProofs only [go_sem, ↓reduceIte, Nat.reduceEqDiff]
      ·simp -implicitDefEqProofs only [go_sem, ↓reduceIte, Nat.reduceEqDiff, e15, Int.toNat_natCast]
       omega
    ·have d3 : (w.kind == 3) = false := beq_eq_false_iff_ne.2 k3
     simp -implicitDefEqProofs only [go_sem, ↓reduceIte, Nat.reduceEqDiff, Nat.reduceLT, Nat.reduceLeDiff, Nat.reduceAdd, Nat.reduceMul, Nat.reduceSub, reduceCtorEq, Nat.reduceMod, Nat.reduceBEq, Int.reduceBEq, Int.reduceBNe, Int.reduceToNat, d1, d3, hx7, psplice, set_set, e3, e15, hap, hw]
     refine vnext hJ hM S' (fun id c h => by rw [Go.VL.set_ne (fun he => by rw [he, hx] at h; cases h)]; exact h) ⟨rfl, k + 1, hlt, ?_, ?_, ?_, ?_, ?_⟩ ?_
     ·unfold encT; simp -implicitDefEqProofs only [go_sem, ↓reduceIte, Nat.reduceEqDiff, Nat.reduceLT, Nat.reduceLeDiff, Nat.reduceAdd, Nat.reduceMul, Nat.reduceSub, reduceCtorEq, Nat.reduceMod, Nat.reduceBEq, Int.reduceBEq, Int.reduceBNe, Int.reduceToNat, e0]
     ·simp -implicitDefEqProofs only [go_sem, ↓reduceIte, Nat.reduceEqDiff]; rw [encRVs_one0, htk]; unfold rowOf; simp only [if_neg k1, if_neg k3]
     ·simp -implicitDefEqProofs only [go_sem, ↓reduceIte, Nat.reduceEqDiff, e13]
     ·simp -implicitDefEqProofs only [go_sem, ↓reduceIte, Nat.reduceEqDiff, e14]
     ·simp -implicitDefEqProofs only [go_sem, ↓reduceIte, Nat.reduceEqDiff]
     ·simp -implicitDefEqProofs only [go_sem, ↓reduceIte, Nat.reduceEqDiff, e15, Int.toNat_natCast]
      omega
  ·have hnl : ¬ (k : Int) < (T.length : Int) := by omega
   rw [List.take_of_length_le (by omega)] at e3
   simp -implicitDefEqProofs only [go_sem, ↓reduceIte, Nat.reduceEqDiff, Nat.reduceLT, Nat.reduceLeDiff, Nat.reduceAdd, Nat.reduceMul, Nat.reduceSub, reduceCtorEq, Nat.reduceMod, Nat.reduceBEq, Int.reduceBEq, Int.reduceBNe, Int.reduceToNat, e14, e15, hnl]
   refine hQ _ _ _ ?_
   simp -implicitDefEqProofs only [go_sem, ↓reduceIte, Nat.reduceEqDiff, Nat.reduceLT, Nat.reduceLeDiff, Nat.reduceAdd, Nat.reduceMul, Nat.reduceSub, reduceCtorEq, Nat.reduceMod, Nat.reduceBEq, Int.reduceBEq, Int.reduceBNe, Int.reduceToNat, e3]
   exact ⟨S', fun _ _ h => h, hK⟩
end Go.Proofs.YtdioedabjaaboaaGreat.V
