/- Views: a table once more. -/
import Derived.Test.YtdioedabjaaboaaGreatXJ
import Derived.Test.YtdioedabjaaboaaGreatVLM
set_option linter.unusedVariables false
set_option linter.unusedSimpArgs false
namespace Go.Proofs.YtdioedabjaaboaaGreat.V
open Go Go.VL

structure Cl (S S' : Store) (w : Wv) (gid2 : Nat) (P : List Pr) (kd2 : ByteArray → Nat) (G : ByteArray → Prop) : Prop where
 top : ∃ cl st, ∃ L : AL, MC S' gid2 cl st L ∧ (ks L).Nodup ∧ ∀ g v, (g, v) ∈ L ↔ (G g ∧ v = gv (kd2 g) (sumOf w (memG w g P)))
 sub : ∀ g, G g → kd2 g ≠ gid2 ∧ S (kd2 g) = none ∧ ∃ cl st, ∃ kl : List ByteArray, MC S' (kd2 g) cl st (kl.map kv1) ∧ kl.Perm ((memG w g P).map Prod.fst)
 inj : ∀ g g', G g → G g' → kd2 g = kd2 g' → g = g'
 old : ∀ id x, S id = some x → S' id = some x
 new : S gid2 = none
theorem Cl.step {S S' S'' : Store} {w : Wv} {gid2 : Nat} {P : List Pr} {kd2 : ByteArray → Nat} {G : ByteArray → Prop} (h : Cl S S' w gid2 P kd2 G) {g0 : ByteArray} (hg0 : ¬ G g0) {kid : Nat} (hkid : S' kid = none)
  (hfr : ∀ id x, id ≠ gid2 → S' id = some x → S'' id = some x)
  (hk : ∃ cl st, ∃ kl : List ByteArray, MC S'' kid cl st (kl.map kv1) ∧ kl.Perm ((memG w g0 P).map Prod.fst))
  {cl : Nat} {st : List (Nat × ByteArray)} {L : AL} (m1 : MC S' gid2 cl st L) (n1 : (ks L).Nodup) (i1 : ∀ g v, (g, v) ∈ L ↔ (G g ∧ v = gv (kd2 g) (sumOf w (memG w g P))))
  {cl2 : Nat} {st2 : List (Nat × ByteArray)} (m2 : MC S'' gid2 cl2 st2 (updA g0 (gv kid (sumOf w (memG w g0 P))) L)) :
  Cl S S'' w gid2 P (kdSet kd2 g0 kid) (fun g => G g ∨ g = g0) := by
 have hkg : kid ≠ gid2 := fun he => by have := m1.some; rw [← he, hkid] at this; cases this
 have e0 : kdSet kd2 g0 kid g0 = kid := by simp [kdSet]
 have e1 : ∀ g, G g → kdSet kd2 g0 kid g = kd2 g := fun g hg => by
  have : g ≠ g0 := fun he => hg0 (he ▸ hg)
  simp [kdSet, this]
 have e2 : ∀ g, G g → kd2 g ≠ kid := fun g hg he => by
  obtain ⟨_, _, c, s, kl, m, _⟩ := h.sub g hg
  have := m.some
  rw [he, hkid] at this; cases this
 refine ⟨⟨cl2, st2, _, m2, nodup_upd n1, ?_⟩, ?_, ?_, ?_, h.new⟩
 ·intro g v
  rw [mem_upd n1, i1]
  constructor
  ·rintro (hx | ⟨⟨hx, hy⟩, hz⟩)
   ·injection hx with hx hy
    subst hx
    exact ⟨.inr rfl, by rw [e0, hy]⟩
   ·exact ⟨.inl hx, by rw [e1 g hx, hy]⟩
  ·rintro ⟨hx | hx, hy⟩
   ·right
    exact ⟨⟨hx, by rw [e1 g hx] at hy; exact hy⟩, fun he => hg0 (he ▸ hx)⟩
   ·left
    subst hx
    rw [e0] at hy
    rw [hy]
 ·rintro g (hg | hg)
  ·rw [e1 g hg]
   obtain ⟨a1, a2, c, s, kl, m, p⟩ := h.sub g hg
   exact ⟨a1, a2, c, s, kl, m.eq (by rw [hfr _ _ a1 m.some, m.some]), p⟩
  ·subst hg
   rw [e0]
   refine ⟨hkg, ?_, hk⟩
   cases hx : S kid with
   | none => rfl
   | some x => rw [h.old _ _ hx] at hkid; cases hkid
 ·rintro g g' (hg | hg) (hg' | hg') he
  ·rw [e1 g hg, e1 g' hg'] at he
   exact h.inj g g' hg hg' he
  ·subst hg'
   rw [e1 g hg, e0] at he
   exact absurd he (e2 g hg)
  ·subst hg
   rw [e0, e1 g' hg'] at he
   exact absurd he.symm (e2 g' hg')
  ·rw [hg, hg']
 ·intro id x hx
  refine hfr id x (fun he => ?_) (h.old id x hx)
  rw [he, h.new] at hx; cases hx
theorem Cl.congr {S S' : Store} {w : Wv} {gid2 : Nat} {P : List Pr} {kd2 : ByteArray → Nat} {G G' : ByteArray → Prop} (h : Cl S S' w gid2 P kd2 G) (hG : ∀ g, G g ↔ G' g) : Cl S S' w gid2 P kd2 G' := by
 have : G = G' := funext fun g => propext (hG g)
 subst this; exact h
theorem Cl.done {S S' : Store} {w : Wv} {gid2 : Nat} {P : List Pr} {kd2 : ByteArray → Nat} (h : Cl S S' w gid2 P kd2 (fun g => memG w g P ≠ [])) : NewTab S S' w gid2 P kd2 :=
 ⟨⟨h.top, fun g hg => ⟨(h.sub g hg).1, (h.sub g hg).2.2⟩, h.inj⟩, h.old, h.new, fun g hg => (h.sub g hg).2.1⟩

theorem nodup_snd {st : List (Nat × ByteArray)} {L : AL} (hk : st.map Prod.snd = L.map Prod.fst) (h : (ks L).Nodup) {a b : Nat} {k : ByteArray} (ha : (a, k) ∈ st) (hb : (b, k) ∈ st) : a = b := by
 unfold ks at h
 rw [← hk] at h
 clear hk
 induction st with
 | nil => cases ha
 | cons p st ih =>
  rw [List.map_cons, List.nodup_cons] at h
  rcases List.mem_cons.1 ha with ha | ha <;> rcases List.mem_cons.1 hb with hb | hb
  ·rw [← ha] at hb; injection hb with hb _; exact hb.symm
  ·exact absurd (List.mem_map.2 ⟨_, hb, by rw [← ha]⟩) h.1
  ·exact absurd (List.mem_map.2 ⟨_, ha, by rw [← hb]⟩) h.1
  ·exact ih h.2 ha hb
theorem eq_mc {S S' : Store} {id id' cl : Nat} {st : List (Nat × ByteArray)} {L : AL} (h : MC S id cl st L) (he : mapAt S' id' = some (cl, st, L.map Prod.snd)) : MC S' id' cl st L :=
 ⟨he, h.keys, h.nodup, h.lt⟩
theorem clone_calls {S : Store} {w : Wv} {gid : Nat} {P : List Pr} {kd : ByteArray → Nat} (h : Tab S w gid P kd) (K : PV → Store → Prop)
  (hK : ∀ S' gid' kd', NewTab S S' w gid' P kd' → K (.agg (encT w gid')) S') : PCalls Tryz.prog 64 [.ip (encT w gid) 0] S K := by
 obtain ⟨cl, st, L, h1, h2, h3, h4⟩ := h.at
 refine pcalls_of (C := C) (fun _ => false) (fun d => d == 10) Tryz.func64 rfl rfl (by simp [Tryz.f64]) ?_
 unfold encT
 simp -implicitDefEqProofs only [go_sem, ↓reduceIte, Nat.reduceEqDiff, Nat.reduceLT, Nat.reduceLeDiff, Nat.reduceAdd, Nat.reduceMul, Nat.reduceSub, reduceCtorEq, Nat.reduceMod, Nat.reduceBEq, Int.reduceBEq, Int.reduceBNe, Int.reduceToNat, Tryz.f64]
 intro gid2 hg2
 have hgg : gid ≠ gid2 := fun he => by have := h1.some; rw [he, hg2] at this; cases this
 have hm0 : MC (S.set gid2 (some [PV.mcon 0 [] []])) gid2 0 [] [] := ⟨mapAt_set, rfl, by simp, by simp⟩
 have hc0 : Cl S (S.set gid2 (some [PV.mcon 0 [] []])) w gid2 P (fun _ => 0) (fun _ => False) := by
  refine ⟨⟨0, [], [], hm0, by simp [ks], ?_⟩, ?_, ?_, ?_, hg2⟩
  ·intro g v; simp
  ·intro g h; exact h.elim
  ·intro g g' h; exact h.elim
  ·intro id x hx
   rw [Go.VL.set_ne (fun h => by rw [h, hg2] at hx; cases hx), hx]
 simp -implicitDefEqProofs only [go_sem, ↓reduceIte, Nat.reduceEqDiff, Nat.reduceLT, Nat.reduceLeDiff, Nat.reduceAdd, Nat.reduceMul, Nat.reduceSub, reduceCtorEq, Nat.reduceMod, Nat.reduceBEq, Int.reduceBEq, Int.reduceBNe, Int.reduceToNat, mapAt_ne hgg, h1.at_]
 intro b
 refine vloop (fun e S' => ∃ (seen : List Nat) (kd2 : ByteArray → Nat), Cl S S' w gid2 P kd2 (fun g => ∃ s, (s, g) ∈ st ∧ seen.contains s = true) ∧ e 2 = .fresh 5 ∧ e 3 = .ip (encT w gid2) 0 ∧ e 16 = .miter b gid cl cl seen) (fun e _ => match e 16 with | .miter _ _ _ _ seen => unseen st seen | _ => 0) ?_ ?_
 ·exact ⟨[], _, hc0.congr (fun g => by simp), rfl, rfl, rfl⟩
 ·rintro J M Q' hJ hM hQ e S' ⟨seen, kd2, hc, e2, e3, e16⟩
  have h1' : MC S' gid cl st L := h1.eq (by rw [hc.old _ _ h1.some, h1.some])
  simp -implicitDefEqProofs only [go_sem, ↓reduceIte, Nat.reduceEqDiff, Nat.reduceLT, Nat.reduceLeDiff, Nat.reduceAdd, Nat.reduceMul, Nat.reduceSub, reduceCtorEq, Nat.reduceMod, Nat.reduceBEq, Int.reduceBEq, Int.reduceBNe, Int.reduceToNat, e16, h1'.at_]
  refine ⟨⟨Nat.le_refl _, h1.lt⟩, ?_, ?_⟩
  ·intro hall
   have hnt : NewTab S S' w gid2 P kd2 := Cl.done (hc.congr fun g => by
    constructor
    ·rintro ⟨s, hs, _⟩
     have hm : g ∈ st.map Prod.snd := List.mem_map.2 ⟨_, hs, rfl⟩
     rw [h1.keys] at hm
     obtain ⟨q, hq, he⟩ := List.mem_map.1 hm
     obtain ⟨qg, qv⟩ := q
     dsimp only at he
     subst he
     exact ((h4 _ _).1 hq).1
    ·intro hg
     obtain ⟨s, hs⟩ := stamp_mc h1 ((h4 g _).2 ⟨hg, rfl⟩)
     exact ⟨s, hs, List.all_eq_true.1 hall _ hs⟩)
   refine hQ _ _ _ ?_
   unfold encT at e3
   simp -implicitDefEqProofs only [go_sem, ↓reduceIte, Nat.reduceEqDiff, Nat.reduceLT, Nat.reduceLeDiff, Nat.reduceAdd, Nat.reduceMul, Nat.reduceSub, reduceCtorEq, Nat.reduceMod, Nat.reduceBEq, Int.reduceBEq, Int.reduceBNe, Int.reduceToNat, e2, e3]
   exact ⟨S', fun _ _ h => h, hK S' gid2 kd2 hnt⟩
  ·intro j s k v hj hv hcs
   obtain ⟨hg, rfl⟩ := (h4 k v).1 (pair_mc h1 hj hv)
   refine en_mk (j := j) (st := s) (k := k) (v := gv (kd k) (sumOf w (memG w k P))) ⟨rfl, last_snoc _ _, hj, hv, by decide, by decide⟩ h1.nodup ?_
   obtain ⟨n1, c1, s1, kl, m1, p1⟩ := h.sub k hg
   have m1' := m1.eq (S' := S') (by rw [hc.old _ _ m1.some, m1.some])
   unfold gv
   unfold encT at e3
   simp -implicitDefEqProofs only [go_sem, ↓reduceIte, Nat.reduceEqDiff, Nat.reduceLT, Nat.reduceLeDiff, Nat.reduceAdd, Nat.reduceMul, Nat.reduceSub, reduceCtorEq, Nat.reduceMod, Nat.reduceBEq, Int.reduceBEq, Int.reduceBNe, Int.reduceToNat]
   refine vwp_mixtail (n := 5) 9 (fun k => k == 5) (fun k => k == 5) [0, 1, 2, 3, 4, 6, 7, 5, 8] (by decide +kernel) (by decide +kernel) ?_
   simp -implicitDefEqProofs only [go_sem, ↓reduceIte, Nat.reduceEqDiff, Nat.reduceLT, Nat.reduceLeDiff, Nat.reduceAdd, Nat.reduceMul, Nat.reduceSub, reduceCtorEq, Nat.reduceMod, Nat.reduceBEq, Int.reduceBEq, Int.reduceBNe, Int.reduceToNat, e3]
   refine mclone_calls m1'.some _ ?_
   intro kid hkid
   have hfr0 : ∀ id c, S' id = some c → (S'.set kid (some [PV.mcon c1 s1 (List.map Prod.snd (kl.map kv1))])) id = some c := fun id c hx => by
    rw [Go.VL.set_ne (fun he => by rw [he, hkid] at hx; cases hx), hx]
   obtain ⟨cl2, st2, L2, m2, n2, i2⟩ := hc.top
   have hkg : kid ≠ gid2 := fun he => by have := m2.some; rw [← he, hkid] at this; cases this
   obtain ⟨cu, su, hu, hu'⟩ := m2.upd k (gv kid (sumOf w (memG w k P)))
   unfold gv at hu
   have hng : ¬ ∃ s, (s, k) ∈ st ∧ seen.contains s = true := by
    rintro ⟨s', hs', hss⟩
    have := nodup_snd h1.keys h2 hs' (List.mem_of_getElem? hj)
    subst this
    rw [hcs] at hss; cases hss
   simp -implicitDefEqProofs only [go_sem, ↓reduceIte, Nat.reduceEqDiff, Nat.reduceLT, Nat.reduceLeDiff, Nat.reduceAdd, Nat.reduceMul, Nat.reduceSub, reduceCtorEq, Nat.reduceMod, Nat.reduceBEq, Int.reduceBEq, Int.reduceBNe, Int.reduceToNat]
   refine ⟨hfr0, ?_⟩
   simp -implicitDefEqProofs only [go_sem, ↓reduceIte, Nat.reduceEqDiff, Nat.reduceLT, Nat.reduceLeDiff, Nat.reduceAdd, Nat.reduceMul, Nat.reduceSub, reduceCtorEq, Nat.reduceMod, Nat.reduceBEq, Int.reduceBEq, Int.reduceBNe, Int.reduceToNat, mapAt_ne (Ne.symm hkg), m2.at_, hu]
   have hstep := hc.step (S'' := (S'.set kid (some [PV.mcon c1 s1 (List.map Prod.snd (List.map kv1 kl))])).set gid2 (some [PV.mcon cu su (List.map Prod.snd (updA k (gv kid (sumOf w (memG w k P))) L2))])) hng hkid
    (fun id x hne hx => by rw [Go.VL.set_ne hne]; exact hfr0 id x hx)
    ⟨c1, s1, kl, eq_mc m1' (by unfold mapAt; rw [Go.VL.set_ne hkg, set_at]), p1⟩ m2 n2 i2 (hu' _ mapAt_set)
   refine vnext hJ hM _ (fun _ _ h => h) ⟨seen ++ [s], kdSet kd2 k kid, hstep.congr (fun g => ?_), ?_, ?_, ?_⟩ ?_
   ·constructor
    ·rintro (⟨s', q1, q2⟩ | rfl)
     ·exact ⟨s', q1, by simp only [List.contains_eq_mem, decide_eq_true_eq, List.mem_append] at q2 ⊢; exact .inl q2⟩
     ·exact ⟨s, List.mem_of_getElem? hj, by simp⟩
    ·rintro ⟨s', q1, q2⟩
     simp only [List.contains_eq_mem, decide_eq_true_eq, List.mem_append, List.mem_singleton] at q2
     rcases q2 with q2 | q2
     ·exact .inl ⟨s', q1, by simpa using q2⟩
     ·subst q2
      exact .inr (nodup_fst h1.nodup q1 (List.mem_of_getElem? hj))
   ·simp -implicitDefEqProofs only [go_sem, ↓reduceIte, Nat.reduceEqDiff, e2]
   ·unfold encT; simp -implicitDefEqProofs only [go_sem, ↓reduceIte, Nat.reduceEqDiff, Nat.reduceLT, Nat.reduceLeDiff, Nat.reduceAdd, Nat.reduceMul, Nat.reduceSub, reduceCtorEq, Nat.reduceMod, Nat.reduceBEq, Int.reduceBEq, Int.reduceBNe, Int.reduceToNat, e3]
   ·simp -implicitDefEqProofs only [go_sem, ↓reduceIte, Nat.reduceEqDiff]
   ·simp -implicitDefEqProofs only [go_sem, ↓reduceIte, Nat.reduceEqDiff, e16]
    exact unseen_lt hj hcs
end Go.Proofs.YtdioedabjaaboaaGreat.V
