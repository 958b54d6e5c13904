/- Views: whether all sums fit; a view over a map. -/
import Derived.Test.YtdioedabjaaboaaGreatXF
set_option linter.unusedVariables false
set_option linter.unusedSimpArgs false
namespace Go.Proofs.YtdioedabjaaboaaGreat.V
open Go Go.VL

def fitsQ (w : Wv) (P : List Pr) : Bool := P.all fun p => match fieldF p.2 w.field with
 | some g => fitF (sumOf w (memG w g P))
 | none => true
theorem memG_ne {w : Wv} {g : ByteArray} {P : List Pr} : memG w g P ≠ [] ↔ ∃ p ∈ P, fieldF p.2 w.field = some g := by
 constructor
 ·intro h
  obtain ⟨p, hp⟩ := List.exists_mem_of_ne_nil _ h
  obtain ⟨h1, h2⟩ := List.mem_filter.1 hp
  exact ⟨p, h1, by simpa [inG] using h2⟩
 ·rintro ⟨p, h1, h2⟩ he
  have : p ∈ memG w g P := List.mem_filter.2 ⟨h1, by simp [inG, h2]⟩
  rw [he] at this; cases this
theorem fitsQ_iff {w : Wv} {P : List Pr} : fitsQ w P = true ↔ ∀ g, memG w g P ≠ [] → fitF (sumOf w (memG w g P)) = true := by
 unfold fitsQ
 rw [List.all_eq_true]
 constructor
 ·intro h g hg
  obtain ⟨p, h1, h2⟩ := memG_ne.1 hg
  have := h p h1
  rw [h2] at this
  exact this
 ·intro h p hp
  cases hf : fieldF p.2 w.field with
  | none => rfl
  | some g => exact h g (memG_ne.2 ⟨p, hp, hf⟩)
def unseen (st : List (Nat × ByteArray)) (seen : List Nat) : Nat := (st.filter fun k => !seen.contains k.1).length
theorem filter_lt {α : Type} {p q : α → Bool} : ∀ {l : List α}, (∀ x ∈ l, q x = true → p x = true) → (∃ x ∈ l, p x = true ∧ q x = false) → (l.filter q).length < (l.filter p).length
 | [], _, h => by obtain ⟨x, hx, _⟩ := h; cases hx
 | a :: l, h1, h2 => by
  have hle : (l.filter q).length ≤ (l.filter p).length := by
   have : ∀ m : List α, (∀ x ∈ m, q x = true → p x = true) → (m.filter q).length ≤ (m.filter p).length := by
    intro m
    induction m with
    | nil => intro _; simp
    | cons b m ih =>
     intro hm
     have h := ih fun x hx => hm x (List.mem_cons_of_mem _ hx)
     rw [List.filter_cons, List.filter_cons]
     have hb := hm b List.mem_cons_self
     cases hq : q b <;> cases hp : p b <;> simp_all <;> omega
   exact this l fun x hx => h1 x (List.mem_cons_of_mem _ hx)
  rw [List.filter_cons, List.filter_cons]
  obtain ⟨x, hx, hpx, hqx⟩ := h2
  rcases List.mem_cons.1 hx with hx | hx
  ·subst hx
   rw [hqx, hpx]
   simp only [Bool.false_eq_true, if_false, if_true, List.length_cons]
   omega
  ·have ih := filter_lt (l := l) (fun y hy => h1 y (List.mem_cons_of_mem _ hy)) ⟨x, hx, hpx, hqx⟩
   have ha := h1 a List.mem_cons_self
   cases hq : q a <;> cases hp : p a <;> simp_all <;> omega
theorem unseen_lt {st : List (Nat × ByteArray)} {seen : List Nat} {j s : Nat} {k : ByteArray} (hj : st[j]? = some (s, k)) (hs : seen.contains s = false) : unseen st (seen ++ [s]) < unseen st seen := by
 unfold unseen
 refine filter_lt ?_ ⟨(s, k), List.mem_of_getElem? hj, ?_, ?_⟩
 ·intro x _ hx
  simp only [List.contains_eq_mem, Bool.not_eq_true', decide_eq_false_iff_not, List.mem_append] at hx ⊢
  exact fun h => hx (.inl h)
 ·simp only [hs, Bool.not_false]
 ·simp
theorem pair_mc {S : Store} {id cl : Nat} {st : List (Nat × ByteArray)} {L : AL} (h : MC S id cl st L) {j s : Nat} {k : ByteArray} {v : PV} (h1 : st[j]? = some (s, k)) (h2 : (L.map Prod.snd)[j]? = some v) : (k, v) ∈ L := by
 have h3 : (st.map Prod.snd)[j]? = some k := by rw [List.getElem?_map, h1]; rfl
 rw [h.keys, List.getElem?_map] at h3
 rw [List.getElem?_map] at h2
 cases hL : L[j]? with
 | none => rw [hL] at h2; cases h2
 | some p =>
  rw [hL] at h2 h3
  obtain ⟨a, b⟩ := p
  injection h2 with h2
  injection h3 with h3
  dsimp only at h2 h3
  subst h2; subst h3
  exact List.mem_of_getElem? hL
theorem last_snoc (l : List Nat) (x : Nat) : (l ++ [x]).getLast? = some x := by simp
theorem stamp_mc {S : Store} {id cl : Nat} {st : List (Nat × ByteArray)} {L : AL} (h : MC S id cl st L) {k : ByteArray} {v : PV} (hk : (k, v) ∈ L) : ∃ s, (s, k) ∈ st := by
 have : k ∈ st.map Prod.snd := by rw [h.keys]; exact List.mem_map.2 ⟨_, hk, rfl⟩
 obtain ⟨p, hp, he⟩ := List.mem_map.1 this
 exact ⟨p.1, by rw [← he]; exact hp⟩

theorem nodup_fst {st : List (Nat × ByteArray)} (h : (st.map Prod.fst).Nodup) {s : Nat} {a b : ByteArray} (ha : (s, a) ∈ st) (hb : (s, b) ∈ st) : a = b := by
 induction st with
 | nil => cases ha
 | cons p st ih =>
  rw [List.map_cons, List.nodup_cons] at h
  rcases List.mem_cons.1 ha with ha | ha <;> rcases List.mem_cons.1 hb with hb | hb
  ·rw [← ha] at hb; injection hb with _ hb; exact hb.symm
  ·exact absurd (List.mem_map.2 ⟨_, hb, by rw [← ha]⟩) h.1
  ·exact absurd (List.mem_map.2 ⟨_, ha, by rw [← hb]⟩) h.1
  ·exact ih h.2 ha hb
theorem fits_spec {S : Store} {w : Wv} {gid : Nat} {P : List Pr} {kd : ByteArray → Nat} (h : Tab S w gid P kd) : PRet Tryz.prog 66 [.ip (encT w gid) 0] S (.bool (fitsQ w P)) := by
 intro K hK
 obtain ⟨cl, st, L, h1, h2, h3, h4⟩ := h.at
 refine pcalls_of (C := C) (fun _ => false) (fun _ => false) Tryz.func66 rfl rfl (by simp [Tryz.f66]) ?_
 unfold encT
 simp -implicitDefEqProofs only [go_sem, ↓reduceIte, Nat.reduceEqDiff, Nat.reduceLT, Nat.reduceLeDiff, Nat.reduceAdd, Nat.reduceMul, Nat.reduceSub, reduceCtorEq, Nat.reduceMod, Nat.reduceBEq, Int.reduceBEq, Int.reduceBNe, Int.reduceToNat, Tryz.f66, h1.at_]
 intro b
 refine vloop (fun e S' => S' = S ∧ ∃ seen : List Nat, (∀ s g, (s, g) ∈ st → seen.contains s = true → fitF (sumOf w (memG w g P)) = true) ∧ e 11 = .miter b gid cl cl seen) (fun e _ => match e 11 with | .miter _ _ _ _ seen => unseen st seen | _ => 0) ?_ ?_
 ·exact ⟨rfl, [], by simp, rfl⟩
 ·rintro J M Q' hJ hM hQ e S' ⟨rfl, seen, hs, e11⟩
  simp -implicitDefEqProofs only [go_sem, ↓reduceIte, Nat.reduceEqDiff, Nat.reduceLT, Nat.reduceLeDiff, Nat.reduceAdd, Nat.reduceMul, Nat.reduceSub, reduceCtorEq, Nat.reduceMod, Nat.reduceBEq, Int.reduceBEq, Int.reduceBNe, Int.reduceToNat, e11, h1.at_]
  refine ⟨⟨Nat.le_refl _, h1.lt⟩, ?_, ?_⟩
  ·intro hall
   have hq : fitsQ w P = true := fitsQ_iff.2 fun g hg => by
    obtain ⟨s, hsg⟩ := stamp_mc h1 ((h4 g _).2 ⟨hg, rfl⟩)
    exact hs s g hsg (List.all_eq_true.1 hall _ hsg)
   rw [hq] at hK
   refine hQ _ _ _ ?_
   simp -implicitDefEqProofs only [go_sem, ↓reduceIte, Nat.reduceEqDiff, Nat.reduceLT, Nat.reduceLeDiff, Nat.reduceAdd, Nat.reduceMul, Nat.reduceSub, reduceCtorEq, Nat.reduceMod, Nat.reduceBEq, Int.reduceBEq, Int.reduceBNe, Int.reduceToNat]
   exact ⟨S', fun _ _ h => h, hK⟩
  ·intro j s k v hj hv hc
   obtain ⟨hg, rfl⟩ := (h4 k v).1 (pair_mc h1 hj hv)
   refine en_mk (j := j) (st := s) (k := k) (v := gv (kd k) (sumOf w (memG w k P))) ⟨rfl, last_snoc _ _, hj, hv, by decide, by decide⟩ h1.nodup ?_
   unfold gv
   simp -implicitDefEqProofs only [go_sem, ↓reduceIte, Nat.reduceEqDiff, Nat.reduceLT, Nat.reduceLeDiff, Nat.reduceAdd, Nat.reduceMul, Nat.reduceSub, reduceCtorEq, Nat.reduceMod, Nat.reduceBEq, Int.reduceBEq, Int.reduceBNe, Int.reduceToNat]
   refine whole_spec _ _ _ ?_
   cases hfit : fitF (sumOf w (memG w k P))
   ·have hq : fitsQ w P = false := by
     cases hq : fitsQ w P with
     | false => rfl
     | true => rw [fitsQ_iff.1 hq k hg] at hfit; cases hfit
    rw [hq] at hK
    simp -implicitDefEqProofs only [go_sem, ↓reduceIte, Nat.reduceEqDiff, Nat.reduceLT, Nat.reduceLeDiff, Nat.reduceAdd, Nat.reduceMul, Nat.reduceSub, reduceCtorEq, Nat.reduceMod, Nat.reduceBEq, Int.reduceBEq, Int.reduceBNe, Int.reduceToNat, Bool.false_eq_true]
    refine hQ _ _ _ ?_
    simp -implicitDefEqProofs only [go_sem, ↓reduceIte, Nat.reduceEqDiff, Nat.reduceLT, Nat.reduceLeDiff, Nat.reduceAdd, Nat.reduceMul, Nat.reduceSub, reduceCtorEq, Nat.reduceMod, Nat.reduceBEq, Int.reduceBEq, Int.reduceBNe, Int.reduceToNat]
    exact ⟨S', fun _ _ h => h, hK⟩
   ·simp -implicitDefEqProofs only [go_sem, ↓reduceIte, Nat.reduceEqDiff, Nat.reduceLT, Nat.reduceLeDiff, Nat.reduceAdd, Nat.reduceMul, Nat.reduceSub, reduceCtorEq, Nat.reduceMod, Nat.reduceBEq, Int.reduceBEq, Int.reduceBNe, Int.reduceToNat]
    refine vnext hJ hM S' (fun _ _ h => h) ⟨rfl, seen ++ [s], ?_, ?_⟩ ?_
    ·intro s' g' hm hc'
     simp only [List.contains_eq_mem, decide_eq_true_eq, List.mem_append, List.mem_singleton] at hc'
     rcases hc' with hc' | hc'
     ·exact hs s' g' hm (by simpa using hc')
     ·subst hc'
      have := nodup_fst h1.nodup hm (List.mem_of_getElem? hj)
      subst this
      exact hfit
    ·simp -implicitDefEqProofs only [go_sem, ↓reduceIte, Nat.reduceEqDiff]
    ·simp -implicitDefEqProofs only [go_sem, ↓reduceIte, Nat.reduceEqDiff, e11]
     exact unseen_lt hj hc
end Go.Proofs.YtdioedabjaaboaaGreat.V
namespace Go.Proofs.YtdioedabjaaboaaGreat.V
open Go Go.VL

def FitP (P : List Pr) : Prop := ∀ p ∈ P, p.2.size ≤ 1000000
theorem getD_kOf {P : List Pr} {k : Nat} {p : Pr} (h : P[k]? = some p) : (encOs (P.map kOf)).getD k [] = [.str p.1, .bool true, .str p.2] := by
 have : (P.map kOf)[k]? = some (kOf p) := by rw [List.getElem?_map, h]; rfl
 rw [getD_encOs this]; rfl
theorem build_calls (w : Wv) (P : List Pr) (hP : P.length ≤ 1000000) (hf : FitP P) (hn : (P.map Prod.fst).Nodup) (S : Store) (K : PV → Store → Prop)
  (hK : ∀ S' gid kd, NewTab S S' w gid P kd → K (.tup [.agg (encT w gid), .bool (fitsQ w P)]) S') : PCalls Tryz.prog 44 [.agg (encW w), .sl .no 3 (encOs (P.map kOf))] S K := by
 refine pcalls_of (C := C) (fun _ => false) (fun d => d == 10) Tryz.func44 rfl rfl (by simp [Tryz.f44]) ?_
 unfold encW
 simp -implicitDefEqProofs only [go_sem, ↓reduceIte, Nat.reduceEqDiff, Nat.reduceLT, Nat.reduceLeDiff, Nat.reduceAdd, Nat.reduceMul, Nat.reduceSub, reduceCtorEq, Nat.reduceMod, Nat.reduceBEq, Int.reduceBEq, Int.reduceBNe, Int.reduceToNat, Tryz.f44]
 intro gid hg
 have hm0 : MC (S.set gid (some [PV.mcon 0 [] []])) gid 0 [] [] := ⟨mapAt_set, rfl, by simp, by simp⟩
 have ht0 : NewTab S (S.set gid (some [PV.mcon 0 [] []])) w gid [] (fun _ => 0) := by
  refine ⟨⟨⟨0, [], [], hm0, by simp [ks], ?_⟩, ?_, ?_⟩, ?_, hg, ?_⟩
  ·intro g v; simp [memG]
  ·intro g h; simp [memG] at h
  ·intro g g' h; simp [memG] at h
  ·intro id x hx
   rw [Go.VL.set_ne (fun h => by rw [h, hg] at hx; cases hx), hx]
  ·intro g h; simp [memG] at h
 simp -implicitDefEqProofs only [go_sem, ↓reduceIte, Nat.reduceEqDiff, Nat.reduceLT, Nat.reduceLeDiff, Nat.reduceAdd, Nat.reduceMul, Nat.reduceSub, reduceCtorEq, Nat.reduceMod, Nat.reduceBEq, Int.reduceBEq, Int.reduceBNe, Int.reduceToNat, List.length_map]
 refine vloop (fun e S' => ∃ (k : Nat) (kd : ByteArray → Nat), k ≤ P.length ∧ NewTab S S' w gid (P.take k).reverse kd ∧ e 6 = .ip (encT w gid) 0 ∧ e 12 = .sl .no 3 (encOs (P.map kOf)) ∧ e 13 = .int .i64 P.length ∧ e 14 = .int .i64 k ∧ e 4 = .fresh 5) (fun e _ => P.length - iv (e 14)) ?_ ?_
 ·exact ⟨0, _, Nat.zero_le _, ht0, rfl, rfl, rfl, rfl, rfl⟩
 ·rintro J M Q' hJ hM hQ e S' ⟨k, kd, hk, ht, e6, e12, e13, e14, e4⟩
  by_cases hlt : k < P.length
  ·obtain ⟨p, hp⟩ : ∃ p, P[k]? = some p := ⟨P[k], List.getElem?_eq_getElem hlt⟩
   have hlti : (k : Int) < (P.length : Int) := by omega
   have h0 : (0 : Int) ≤ (k : Int) ∧ (k : Int) < (P.length : Int) := by omega
   have hw : IntKind.i64.wrap ((k : Int) + 1) = ((k + 1 : Nat) : Int) := wrap64 (by omega) (by omega)
   have hr : (P.take (k + 1)).reverse = p :: (P.take k).reverse := by
    rw [List.take_add_one, hp]; simp
   have hnot : p.1 ∉ ((P.take k).reverse).map Prod.fst := by
    intro hx
    rw [List.map_reverse, List.mem_reverse] at hx
    have h1 : ((P.take (k + 1)).map Prod.fst).Nodup := (List.take_sublist _ _).map _ |>.nodup hn
    rw [List.take_add_one, hp] at h1
    simp only [Option.toList_some, List.map_append, List.map_cons, List.map_nil] at h1
    exact (List.nodup_append.1 h1).2.2 _ hx _ (by simp) rfl
   simp -implicitDefEqProofs only [go_sem, ↓reduceIte, Nat.reduceEqDiff, Nat.reduceLT, Nat.reduceLeDiff, Nat.reduceAdd, Nat.reduceMul, Nat.reduceSub, reduceCtorEq, Nat.reduceMod, Nat.reduceBEq, Int.reduceBEq, Int.reduceBNe, Int.reduceToNat, e6, e12, e13, e14, hlti, h0, Int.toNat_natCast, getD_kOf hp, len_encOs, List.length_map]
   refine ht.add p.1 p.2 hnot (hf p (List.mem_of_getElem? hp)) _ ?_
   intro S'' kd' ht'
   simp -implicitDefEqProofs only [go_sem, ↓reduceIte, Nat.reduceEqDiff, Nat.reduceLT, Nat.reduceLeDiff, Nat.reduceAdd, Nat.reduceMul, Nat.reduceSub, reduceCtorEq, Nat.reduceMod, Nat.reduceBEq, Int.reduceBEq, Int.reduceBNe, Int.reduceToNat, e14, hw]
   refine vnext hJ hM S'' (fun _ _ h => h) ⟨k + 1, kd', hlt, by rw [hr]; exact ht', ?_, ?_, ?_, ?_, ?_⟩ ?_
   ·simp -implicitDefEqProofs only [go_sem, ↓reduceIte, Nat.reduceEqDiff, e6]
   ·simp -implicitDefEqProofs only [go_sem, ↓reduceIte, Nat.reduceEqDiff, e12]
   ·simp -implicitDefEqProofs only [go_sem, ↓reduceIte, Nat.reduceEqDiff, e13]
   ·simp -implicitDefEqProofs only [go_sem, ↓reduceIte, Nat.reduceEqDiff]
   ·simp -implicitDefEqProofs only [go_sem, ↓reduceIte, Nat.reduceEqDiff, e4]
   ·simp -implicitDefEqProofs only [go_sem, ↓reduceIte, Nat.reduceEqDiff, e14, Int.toNat_natCast]
    omega
  ·have hnl : ¬ (k : Int) < (P.length : Int) := by omega
   have hkl : k = P.length := by omega
   have htk : P.take k = P := by rw [hkl, List.take_length]
   rw [htk] at ht
   have htp : NewTab S S' w gid P kd := ⟨ht.tab.perm (List.reverse_perm P), ht.old, ht.top, fun g hg => ht.sub g ((perm_ne (memG_perm (List.reverse_perm P))).2 hg)⟩
   simp -implicitDefEqProofs only [go_sem, ↓reduceIte, Nat.reduceEqDiff, Nat.reduceLT, Nat.reduceLeDiff, Nat.reduceAdd, Nat.reduceMul, Nat.reduceSub, reduceCtorEq, Nat.reduceMod, Nat.reduceBEq, Int.reduceBEq, Int.reduceBNe, Int.reduceToNat, e13, e14, hnl]
   refine hQ _ _ _ ?_
   unfold encT at e6
   simp -implicitDefEqProofs only [go_sem, ↓reduceIte, Nat.reduceEqDiff, Nat.reduceLT, Nat.reduceLeDiff, Nat.reduceAdd, Nat.reduceMul, Nat.reduceSub, reduceCtorEq, Nat.reduceMod, Nat.reduceBEq, Int.reduceBEq, Int.reduceBNe, Int.reduceToNat]
   refine vwp_draw (i := 7) (by decide +kernel) ?_
   simp -implicitDefEqProofs only [go_sem, ↓reduceIte, Nat.reduceEqDiff, Nat.reduceLT, Nat.reduceLeDiff, Nat.reduceAdd, Nat.reduceMul, Nat.reduceSub, reduceCtorEq, Nat.reduceMod, Nat.reduceBEq, Int.reduceBEq, Int.reduceBNe, Int.reduceToNat, e6]
   refine q_call _ (by simp -implicitDefEqProofs only [go_sem, ↓reduceIte, Nat.reduceEqDiff, e6]; exact fits_spec htp.tab) (by decide) rfl ?_
   simp -implicitDefEqProofs only [go_sem, ↓reduceIte, Nat.reduceEqDiff, Nat.reduceLT, Nat.reduceLeDiff, Nat.reduceAdd, Nat.reduceMul, Nat.reduceSub, reduceCtorEq, Nat.reduceMod, Nat.reduceBEq, Int.reduceBEq, Int.reduceBNe, Int.reduceToNat, e4]
   exact ⟨S', fun _ _ h => h, hK S' gid kd htp⟩
end Go.Proofs.YtdioedabjaaboaaGreat.V
