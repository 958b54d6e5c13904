/- Views: maps that are objects, as lists of pairs. -/
import Derived.Test.YtdioedabjaaboaaGreatXC
set_option linter.unusedVariables false
set_option linter.unusedSimpArgs false
namespace Go.Proofs.YtdioedabjaaboaaGreat.V
open Go Go.VL

abbrev AL := List (ByteArray × PV)
def idxA (k : ByteArray) : AL → Nat → Option Nat
 | [], _ => none
 | p :: l, i => if k == p.1 then some i else idxA k l (i + 1)
theorem idx_eq (k : ByteArray) : ∀ (ks : List (Nat × ByteArray)) (L : AL) (i : Nat), ks.map Prod.snd = L.map Prod.fst → idxM k ks i = idxA k L i
 | [], [], _, _ => rfl
 | [], _ :: _, _, h => by simp at h
 | _ :: _, [], _, h => by simp at h
 | a :: ks, p :: L, i, h => by
  simp only [List.map_cons, List.cons.injEq] at h
  unfold idxM idxA
  rw [h.1, idx_eq k ks L (i + 1) h.2]
theorem idxA_some {k : ByteArray} : ∀ {L : AL} {i j : Nat}, idxA k L i = some j → ∃ (pre : AL) (v : PV) (post : AL), L = pre ++ (k, v) :: post ∧ j = i + pre.length ∧ ∀ p ∈ pre, p.1 ≠ k
 | [], _, _, h => by cases h
 | p :: L, i, j, h => by
  unfold idxA at h
  split at h
  ·rename_i hk
   injection h with h
   obtain ⟨pk, pv⟩ := p
   have : k = pk := (MapKept.bytes_beq _ _).1 hk
   subst this
   exact ⟨[], pv, L, rfl, by simp [h], by simp⟩
  ·rename_i hk
   obtain ⟨pre, v, post, h1, h2, h3⟩ := idxA_some h
   refine ⟨p :: pre, v, post, by rw [h1]; rfl, by rw [h2, List.length_cons]; omega, ?_⟩
   intro q hq
   rcases List.mem_cons.1 hq with hq | hq
   ·subst hq; intro he; apply hk; rw [he]; exact (MapKept.bytes_beq _ _).2 rfl
   ·exact h3 q hq
theorem idxA_none {k : ByteArray} : ∀ {L : AL} {i : Nat}, idxA k L i = none → ∀ p ∈ L, p.1 ≠ k
 | [], _, _ => by simp
 | p :: L, i, h => by
  unfold idxA at h
  split at h
  ·cases h
  ·rename_i hk
   intro q hq
   rcases List.mem_cons.1 hq with hq | hq
   ·subst hq; intro he; apply hk; rw [he]; exact (MapKept.bytes_beq _ _).2 rfl
   ·exact idxA_none h q hq
def lkA (k : ByteArray) (L : AL) : Option PV := (idxA k L 0).bind fun j => (L.map Prod.snd)[j]?
def updA (k : ByteArray) (v : PV) (L : AL) : AL :=
 match idxA k L 0 with
 | some j => L.set j (k, v)
 | none => L ++ [(k, v)]
def delA (k : ByteArray) (L : AL) : AL :=
 match idxA k L 0 with
 | some j => L.eraseIdx j
 | none => L
def ks (L : AL) : List ByteArray := L.map Prod.fst
theorem set_mid {α : Type} (pre : List α) (x y : α) (post : List α) : (pre ++ x :: post).set pre.length y = pre ++ y :: post := by simp
theorem erase_map {α β : Type} (f : α → β) (l : List α) (i : Nat) : (l.eraseIdx i).map f = (l.map f).eraseIdx i := by
 rw [List.eraseIdx_eq_take_drop_succ, List.eraseIdx_eq_take_drop_succ, List.map_append, List.map_take, List.map_drop]
theorem erase_mid {α : Type} (pre : List α) (x : α) (post : List α) : (pre ++ x :: post).eraseIdx pre.length = pre ++ post := by
 rw [List.eraseIdx_append_of_length_le (Nat.le_refl _), Nat.sub_self]; rfl
/-- A key that is there: where; one that is not. -/
theorem splitA (k : ByteArray) (L : AL) : (∃ pre v post, L = pre ++ (k, v) :: post ∧ (∀ p ∈ pre, p.1 ≠ k) ∧ idxA k L 0 = some pre.length ∧ lkA k L = some v ∧ (∀ u, updA k u L = pre ++ (k, u) :: post) ∧ delA k L = pre ++ post) ∨
  ((∀ p ∈ L, p.1 ≠ k) ∧ idxA k L 0 = none ∧ lkA k L = none ∧ (∀ u, updA k u L = L ++ [(k, u)]) ∧ delA k L = L) := by
 cases h : idxA k L 0 with
 | some j =>
  obtain ⟨pre, v, post, h1, h2, h3⟩ := idxA_some h
  have hj : j = pre.length := by omega
  subst hj
  refine .inl ⟨pre, v, post, h1, h3, rfl, ?_, ?_, ?_⟩
  ·unfold lkA; rw [h, h1]; simp
  ·intro u; unfold updA; rw [h]; dsimp only; rw [h1, set_mid]
  ·unfold delA; rw [h]; dsimp only; rw [h1, erase_mid]
 | none =>
  refine .inr ⟨idxA_none h, rfl, ?_, ?_, ?_⟩
  ·unfold lkA; rw [h]; rfl
  ·intro u; unfold updA; rw [h]
  ·unfold delA; rw [h]
theorem lkA_mem {k : ByteArray} {v : PV} {L : AL} (h : lkA k L = some v) : (k, v) ∈ L := by
 rcases splitA k L with ⟨pre, v', post, h1, _, _, h2, _⟩ | ⟨h1, _, h2, _⟩
 ·rw [h2] at h; injection h with h; subst h; rw [h1]; simp
 ·rw [h2] at h; cases h
theorem lkA_of {k : ByteArray} {v : PV} {L : AL} (hn : (ks L).Nodup) (h : (k, v) ∈ L) : lkA k L = some v := by
 rcases splitA k L with ⟨pre, v', post, h1, h3, _, h2, _⟩ | ⟨h1, _, h2, _⟩
 ·rw [h2]
  rw [h1] at h hn
  rcases List.mem_append.1 h with h | h
  ·exact absurd rfl (h3 _ h)
  ·rcases List.mem_cons.1 h with h | h
   ·injection h with _ h; rw [h]
   ·simp only [ks, List.map_append, List.map_cons] at hn
    have := (List.nodup_cons.1 (List.nodup_append.1 hn).2.1).1
    exact absurd (List.mem_map.2 ⟨_, h, rfl⟩) this
 ·exact absurd rfl (h1 _ h)
theorem mem_upd {k : ByteArray} {v : PV} {L : AL} (hn : (ks L).Nodup) {p : ByteArray × PV} : p ∈ updA k v L ↔ p = (k, v) ∨ (p ∈ L ∧ p.1 ≠ k) := by
 rcases splitA k L with ⟨pre, v', post, h1, h3, _, _, h2, _⟩ | ⟨h1, _, _, h2, _⟩
 ·rw [h2, h1]
  rw [h1] at hn
  simp only [ks, List.map_append, List.map_cons] at hn
  have hp := (List.nodup_cons.1 (List.nodup_append.1 hn).2.1).1
  constructor
  ·intro h
   rcases List.mem_append.1 h with h | h
   ·exact .inr ⟨List.mem_append_left _ h, h3 _ h⟩
   ·rcases List.mem_cons.1 h with h | h
    ·exact .inl h
    ·exact .inr ⟨List.mem_append_right _ (List.mem_cons_of_mem _ h), fun he => hp (List.mem_map.2 ⟨_, h, he⟩)⟩
  ·rintro (h | ⟨h, hk⟩)
   ·rw [h]; simp
   ·rcases List.mem_append.1 h with h | h
    ·exact List.mem_append_left _ h
    ·rcases List.mem_cons.1 h with h | h
     ·exact absurd (by rw [h]) hk
     ·exact List.mem_append_right _ (List.mem_cons_of_mem _ h)
 ·rw [h2]
  constructor
  ·intro h
   rcases List.mem_append.1 h with h | h
   ·exact .inr ⟨h, h1 _ h⟩
   ·exact .inl (List.mem_singleton.1 h)
  ·rintro (h | ⟨h, _⟩)
   ·rw [h]; simp
   ·exact List.mem_append_left _ h
theorem mem_del {k : ByteArray} {L : AL} (hn : (ks L).Nodup) {p : ByteArray × PV} : p ∈ delA k L ↔ p ∈ L ∧ p.1 ≠ k := by
 rcases splitA k L with ⟨pre, v', post, h1, h3, _, _, _, h2⟩ | ⟨h1, _, _, _, h2⟩
 ·rw [h2, h1]
  rw [h1] at hn
  simp only [ks, List.map_append, List.map_cons] at hn
  have hp := (List.nodup_cons.1 (List.nodup_append.1 hn).2.1).1
  constructor
  ·intro h
   rcases List.mem_append.1 h with h | h
   ·exact ⟨List.mem_append_left _ h, h3 _ h⟩
   ·exact ⟨List.mem_append_right _ (List.mem_cons_of_mem _ h), fun he => hp (List.mem_map.2 ⟨_, h, he⟩)⟩
  ·rintro ⟨h, hk⟩
   rcases List.mem_append.1 h with h | h
   ·exact List.mem_append_left _ h
   ·rcases List.mem_cons.1 h with h | h
    ·exact absurd (by rw [h]) hk
    ·exact List.mem_append_right _ h
 ·rw [h2]
  exact ⟨fun h => ⟨h, h1 _ h⟩, fun h => h.1⟩
theorem nodup_upd {k : ByteArray} {v : PV} {L : AL} (hn : (ks L).Nodup) : (ks (updA k v L)).Nodup := by
 rcases splitA k L with ⟨pre, v', post, h1, h3, _, _, h2, _⟩ | ⟨h1, _, _, h2, _⟩
 ·rw [h2]; rw [h1] at hn; simpa [ks] using hn
 ·rw [h2]
  simp only [ks, List.map_append, List.map_cons, List.map_nil]
  rw [List.nodup_append]
  refine ⟨hn, by simp, ?_⟩
  intro a ha b hb
  rw [List.mem_singleton] at hb
  subst hb
  obtain ⟨p, hp, he⟩ := List.mem_map.1 ha
  rw [← he]; exact h1 p hp
theorem nodup_del {k : ByteArray} {L : AL} (hn : (ks L).Nodup) : (ks (delA k L)).Nodup := by
 rcases splitA k L with ⟨pre, v', post, h1, h3, _, _, _, h2⟩ | ⟨h1, _, _, _, h2⟩
 ·rw [h2]; rw [h1] at hn
  refine List.Sublist.nodup ?_ hn
  simp only [ks, List.map_append, List.map_cons]
  exact List.Sublist.append_left (List.sublist_cons_self _ _) _
 ·rw [h2]; exact hn

/-- An object is a map with these pairs. -/
structure MC (S : Store) (id cl : Nat) (st : List (Nat × ByteArray)) (L : AL) : Prop where
 at_ : mapAt S id = some (cl, st, L.map Prod.snd)
 keys : st.map Prod.snd = L.map Prod.fst
 nodup : (st.map Prod.fst).Nodup
 lt : ∀ k ∈ st, k.1 < cl
theorem MC.look {S : Store} {id cl : Nat} {st : List (Nat × ByteArray)} {L : AL} (h : MC S id cl st L) (k : ByteArray) : lookM k st (L.map Prod.snd) = lkA k L := by
 unfold lookM lkA; rw [idx_eq k st L 0 h.keys]
theorem MC.upd {S : Store} {id cl : Nat} {st : List (Nat × ByteArray)} {L : AL} (h : MC S id cl st L) (k : ByteArray) (v : PV) :
  ∃ cl' st', updM k v cl st (L.map Prod.snd) = .mcon cl' st' ((updA k v L).map Prod.snd) ∧ ∀ S', mapAt S' id = some (cl', st', (updA k v L).map Prod.snd) → MC S' id cl' st' (updA k v L) := by
 unfold updM
 rw [idx_eq k st L 0 h.keys]
 rcases splitA k L with ⟨pre, v', post, h1, h3, h4, _, h2, _⟩ | ⟨h1, h4, _, h2, _⟩
 ·rw [h4]
  refine ⟨cl, st, ?_, fun S' hS => ⟨hS, ?_, h.nodup, h.lt⟩⟩
  ·dsimp only
   rw [h2, h1]
   simp
  ·rw [h.keys, h2, h1]; simp
 ·rw [h4]
  refine ⟨cl + 1, st ++ [(cl, k)], ?_, fun S' hS => ⟨hS, ?_, ?_, ?_⟩⟩
  ·dsimp only
   rw [h2]; simp
  ·rw [h2, List.map_append, h.keys, List.map_append]; rfl
  ·rw [List.map_append, List.nodup_append]
   refine ⟨h.nodup, by simp, ?_⟩
   intro a ha b hb
   obtain ⟨p, hp, he⟩ := List.mem_map.1 ha
   simp only [List.map_cons, List.map_nil, List.mem_singleton] at hb
   have := h.lt p hp
   omega
  ·intro p hp
   rcases List.mem_append.1 hp with hp | hp
   ·have := h.lt p hp; omega
   ·rw [List.mem_singleton] at hp; subst hp; simp
theorem MC.del {S : Store} {id cl : Nat} {st : List (Nat × ByteArray)} {L : AL} (h : MC S id cl st L) (k : ByteArray) :
  ∃ st', delM k cl st (L.map Prod.snd) = .mcon cl st' ((delA k L).map Prod.snd) ∧ ∀ S', mapAt S' id = some (cl, st', (delA k L).map Prod.snd) → MC S' id cl st' (delA k L) := by
 unfold delM
 rw [idx_eq k st L 0 h.keys]
 rcases splitA k L with ⟨pre, v', post, h1, h3, h4, _, _, h2⟩ | ⟨h1, h4, _, _, h2⟩
 ·rw [h4]
  refine ⟨st.eraseIdx pre.length, ?_, fun S' hS => ⟨hS, ?_, ?_, ?_⟩⟩
  ·dsimp only
   rw [h2, h1, ← erase_map, erase_mid]
  ·rw [h2, erase_map, h.keys, h1, ← erase_map, erase_mid]
  ·rw [erase_map]
   exact (List.eraseIdx_sublist _ _).nodup h.nodup
  ·intro p hp
   exact h.lt p (List.mem_of_mem_eraseIdx hp)
 ·rw [h4]
  exact ⟨st, by dsimp only; rw [h2], fun S' hS => ⟨hS, by rw [h2]; exact h.keys, h.nodup, h.lt⟩⟩
theorem MC.eq {S S' : Store} {id cl : Nat} {st : List (Nat × ByteArray)} {L : AL} (h : MC S id cl st L) (he : S' id = S id) : MC S' id cl st L :=
 ⟨by rw [← h.at_]; unfold mapAt; rw [he], h.keys, h.nodup, h.lt⟩
theorem MC.some {S : Store} {id cl : Nat} {st : List (Nat × ByteArray)} {L : AL} (h : MC S id cl st L) : S id = some [.mcon cl st (L.map Prod.snd)] := mapAt_some h.at_
end Go.Proofs.YtdioedabjaaboaaGreat.V
