/- Views: whether all sums fit; a view over a map. -/
import Derived.Test.YtdioedabjaaboaaGreatXF
set_option linter.unusedVariables false
set_option linter.unusedSimpArgs false
namespace Go.Proofs.YtdioedabjaaboaaGreat.V
open Go Go.VL

def fitsQ (w : Wv) (P : List Pr) : Bool := P.all fun p => match fieldF p.2 w.field with
 | some g => fitF (sumOf w (memG w g P))
 | none => true
theorem memG_ne {w : Wv} {g : ByteArray} {P : List Pr} : memG w g P ≠ [] ↔ ∃ p ∈ P, fieldF p.2 w.field = some g := by
 constructor
 ·intro h
  obtain ⟨p, hp⟩ := List.exists_mem_of_ne_nil _ h
  obtain ⟨h1, h2⟩ := List.mem_filter.1 hp
  exact ⟨p, h1, by simpa [inG] using h2⟩
 ·rintro ⟨p, h1, h2⟩ he
  have : p ∈ memG w g P := List.mem_filter.2 ⟨h1, by simp [inG, h2]⟩
  rw [he] at this; cases this
theorem fitsQ_iff {w : Wv} {P : List Pr} : fitsQ w P = true ↔ ∀ g, memG w g P ≠ [] → fitF (sumOf w (memG w g P)) = true := by
 unfold fitsQ
 rw [List.all_eq_true]
 constructor
 ·intro h g hg
  obtain ⟨p, h1, h2⟩ := memG_ne.1 hg
  have := h p h1
  rw [h2] at this
  exact this
 ·intro h p hp
  cases hf : fieldF p.2 w.field with
  | none => rfl
  | some g => exact h g (memG_ne.2 ⟨p, hp, hf⟩)
def unseen (st : List (Nat × ByteArray)) (seen : List Nat) : Nat := (st.filter fun k => !seen.contains k.1).length
theorem filter_lt {α : Type} {p q : α → Bool} : ∀ {l : List α}, (∀ x ∈ l, q x = true → p x = true) → (∃ x ∈ l, p x = true ∧ q x = false) → (l.filter q).length < (l.filter p).length
 | [], _, h => by obtain ⟨x, hx, _⟩ := h; cases hx
 | a :: l, h1, h2 => by
  have hle : (l.filter q).length ≤ (l.filter p).length := by
   have : ∀ m : List α, (∀ x ∈ m, q x = true → p x = true) → (m.filter q).length ≤ (m.filter p).length := by
    intro m
    induction m with
    | nil => intro _; simp
    | cons b m ih =>
     intro hm
     have h := ih fun x hx => hm x (List.mem_cons_of_mem _ hx)
     rw [List.filter_cons, List.filter_cons]
     have hb := hm b List.mem_cons_self
     cases hq : q b <;> cases hp : p b <;> simp_all <;> omega
   exact this l fun x hx => h1 x (List.mem_cons_of_mem _ hx)
  rw [List.filter_cons, List.filter_cons]
  obtain ⟨x, hx, hpx, hqx⟩ := h2
  rcases List.mem_cons.1 hx with hx | hx
  ·subst hx
   rw [hqx, hpx]
   simp only [Bool.false_eq_true, if_false, if_true, List.length_cons]
   omega
  ·have ih := filter_lt (l := l) (fun y hy => h1 y (List.mem_cons_of_mem _ hy)) ⟨x, hx, hpx, hqx⟩
   have ha := h1 a List.mem_cons_self
   cases hq : q a <;> cases hp : p a <;> simp_all <;> omega
theorem unseen_lt {st : List (Nat × ByteArray)} {seen : List Nat} {j s : Nat} {k : ByteArray} (hj : st[j]? = some (s, k)) (hs : seen.contains s = false) : unseen st (seen ++ [s]) < unseen st seen := by
 unfold unseen
 refine filter_lt ?_ ⟨(s, k), List.mem_of_getElem? hj, ?_, ?_⟩
 ·intro x _ hx
  simp only [List.contains_eq_mem, Bool.not_eq_true', decide_eq_false_iff_not, List.mem_append] at hx ⊢
  exact fun h => hx (.inl h)
 ·simp only [hs, Bool.not_false]
 ·simp
theorem pair_mc {S : Store} {id cl : Nat} {st : List (Nat × ByteArray)} {L : AL} (h : MC S id cl st L) {j s : Nat} {k : ByteArray} {v : PV} (h1 : st[j]? = some (s, k)) (h2 : (L.map Prod.snd)[j]? = some v) : (k, v) ∈ L := by
 have h3 : (st.map Prod.snd)[j]? = some k := by rw [List.getElem?_map, h1]; rfl
 rw [h.keys, List.getElem?_map] at h3
 rw [List.getElem?_map] at h2
 cases hL : L[j]? with
 | none => rw [hL] at h2; cases h2
 | some p =>
  rw [hL] at h2 h3
  obtain ⟨a, b⟩ := p
  injection h2 with h2
  injection h3 with h3
  dsimp only at h2 h3
  subst h2; subst h3
  exact List.mem_of_getElem? hL
theorem last_snoc (l : List Nat) (x : Nat) : (l ++ [x]).getLast? = some x := by simp
theorem stamp_mc {S : Store} {id cl : Nat} {st : List (Nat × ByteArray)} {L : AL} (h : MC S id cl st L) {k : ByteArray} {v : PV} (hk : (k, v) ∈ L) : ∃ s, (s, k) ∈ st := by
 have : k ∈ st.map Prod.snd := by rw [h.keys]; exact List.mem_map.2 ⟨_, hk, rfl⟩
 obtain ⟨p, hp, he⟩ := List.mem_map.1 this
 exact ⟨p.1, by rw [← he]; exact hp⟩

theorem nodup_fst {st : List (Nat × ByteArray)} (h : (st.map Prod.fst).Nodup) {s : Nat} {a b : ByteArray} (ha : (s, a) ∈ st) (hb : (s, b) ∈ st) : a = b := by
 induction st with
 | nil => cases ha
 | cons p st ih =>
  rw [List.map_cons, List.nodup_cons] at h
  rcases List.mem_cons.1 ha with ha | ha <;> rcases List.mem_cons.1 hb with hb | hb
  ·rw [← ha] at hb; injection hb with _ hb; exact hb.symm
  ·exact absurd (List.mem_map.2 ⟨_, hb, by rw [← ha]⟩) h.1
  ·exact absurd (List.mem_map.2 ⟨_, ha, by rw [← hb]⟩) h.1
  ·exact ih h.2 ha hb
theorem fits_spec {S : Store} {w : Wv} {gid : Nat} {P : List Pr} {kd : ByteArray → Nat} (h : Tab S w gid P kd) : PRet Tryz.prog 66 [.ip (encT w gid) 0] S (.bool (fitsQ w P)) := by
 intro K hK
 obtain ⟨cl, st, L, h1, h2, h3, h4⟩ := h.at
 refine pcalls_of (C := C) (fun _ => false) (fun _ => false) Tryz.func66 rfl rfl (by simp [Tryz.f66]) ?_
 unfold encT
 simp -implicitDefEqProofs only [go_sem, ↓reduceIte, Nat.reduceEqDiff, Nat.reduceLT, Nat.reduceLeDiff, Nat.reduceAdd, Nat.reduceMul, Nat.reduceSub, reduceCtorEq, Nat.reduceMod, Nat.reduceBEq, Int.reduceBEq, Int.reduceBNe, Int.reduceToNat, Tryz.f66, h1.at_]
 intro b
 refine vloop (fun e S' => S' = S ∧ ∃ seen : List Nat, (∀ s g, (s, g) ∈ st → seen.contains s = true → fitF (sumOf w (memG w g P)) = true) ∧ e 11 = .miter b gid cl cl seen) (fun e _ => match e 11 with | .miter _ _ _ _ seen => unseen st seen | _ => 0) ?_ ?_
 ·exact ⟨rfl, [], by simp, rfl⟩
 ·rintro J M Q' hJ hM hQ e S' ⟨rfl, seen, hs, e11⟩
  simp -implicitDefEqProofs only [go_sem, ↓reduceIte, Nat.reduceEqDiff, Nat.reduceLT, Nat.reduceLeDiff, Nat.reduceAdd, Nat.reduceMul, Nat.reduceSub, reduceCtorEq, Nat.reduceMod, Nat.reduceBEq, Int.reduceBEq, Int.reduceBNe, Int.reduceToNat, e11, h1.at_]
  refine ⟨⟨Nat.le_refl _, h1.lt⟩, ?_, ?_⟩
  ·intro hall
   have hq : fitsQ w P = true := fitsQ_iff.2 fun g hg => by
    obtain ⟨s, hsg⟩ := stamp_mc h1 ((h4 g _).2 ⟨hg, rfl⟩)
    exact hs s g hsg (List.all_eq_true.1 hall _ hsg)
   rw [hq] at hK
   refine hQ _ _ _ ?_
   simp -implicitDefEqProofs only [go_sem, ↓reduceIte, Nat.reduceEqDiff, Nat.reduceLT, Nat.reduceLeDiff, Nat.reduceAdd, Nat.reduceMul, Nat.reduceSub, reduceCtorEq, Nat.reduceMod, Nat.reduceBEq, Int.reduceBEq, Int.reduceBNe, Int.reduceToNat]
   exact ⟨S', fun _ _ h => h, hK⟩
  ·intro j s k v hj hv hc
   obtain ⟨hg, rfl⟩ := (h4 k v).1 (pair_mc h1 hj hv)
   refine en_mk (j := j) (st := s) (k := k) (v := gv (kd k) (sumOf w (memG w k P))) ⟨rfl, last_snoc _ _, hj, hv, by decide, by decide⟩ h1.nodup ?_
   unfold gv
   simp -implicitDefEqProofs only [go_sem, ↓reduceIte, Nat.reduceEqDiff, Nat.reduceLT, Nat.reduceLeDiff, Nat.reduceAdd, Nat.reduceMul, Nat.reduceSub, reduceCtorEq, Nat.reduceMod, Nat.reduceBEq, Int.reduceBEq, Int.reduceBNe, Int.reduceToNat]
   refine whole_spec _ _ _ ?_
   cases hfit : fitF (sumOf w (memG w k P))
   ·have hq : fitsQ w P = false := by
     cases hq : fitsQ w P with
     | false => rfl
     | true => rw [fitsQ_iff.1 hq k hg] at hfit; cases hfit
    rw [hq] at hK
    simp -implicitDefEqProofs only [go_sem, ↓reduceIte, Nat.reduceEqDiff, Nat.reduceLT, Nat.reduceLeDiff, Nat.reduceAdd, Nat.reduceMul, Nat.reduceSub, reduceCtorEq, Nat.reduceMod, Nat.reduceBEq, Int.reduceBEq, Int.reduceBNe, Int.reduceToNat, Bool.false_eq_true]
    refine hQ _ _ _ ?_
    simp -implicitDefEqProofs only [go_sem, ↓reduceIte, Nat.reduceEqDiff, Nat.reduceLT, Nat.reduceLeDiff, Nat.reduceAdd, Nat.reduceMul, Nat.reduceSub, reduceCtorEq, Nat.reduceMod, Nat.reduceBEq, Int.reduceBEq, Int.reduceBNe, Int.reduceToNat]
    exact ⟨S', fun _ _ h => h, hK⟩
   ·simp -implicitDefEqProofs only [go_sem, ↓reduceIte, Nat.reduceEqDiff, Nat.reduceLT, Nat.reduceLeDiff, Nat.reduceAdd, Nat.reduceMul, Nat.reduceSub, reduceCtorEq, Nat.reduceMod, Nat.reduceBEq, Int.reduceBEq, Int.reduceBNe, Int.reduceToNat]
    refine vnext hJ hM S' (fun _ _ h => h) ⟨rfl, seen ++ [s], ?_, ?_⟩ ?_
    ·intro s' g' hm hc'
     simp only [List.contains_eq_mem, decide_eq_true_eq, List.mem_append, List.mem_singleton] at hc'
     rcases hc' with hc' | hc'
     ·exact hs s' g' hm (by simpa using hc')
     ·subst hc'
      have := nodup_fst h1.nodup hm (List.mem_of_getElem? hj)
      subst this
      exact hfit
    ·simp -implicitDefEqProofs only [go_sem, ↓reduceIte, Nat.reduceEqDiff]
    ·simp -implicitDefEqProofs only [go_sem, ↓reduceIte, Nat.reduceEqDiff, e11]
     exact unseen_lt hj hc
end Go.Proofs.YtdioedabjaaboaaGreat.V
