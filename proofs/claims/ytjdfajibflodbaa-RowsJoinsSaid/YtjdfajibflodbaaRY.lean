/- Rows: entries whose bytes are one's own. -/
import Derived.Test.YtjdfajibflodbaaRX
set_option linter.unusedVariables false
set_option linter.unusedSimpArgs false
namespace Go.Proofs.Ytjdfajibflodbaa.V
open Go Go.VL

def cellsD (d : List Int) : List PV := d.map fun b => .int .u8 b
theorem bareAll_encD (d : List Int) : bareAll (encD d) = cellsD d := by
  induction d with
  | nil => rfl
  | cons b d ih =>
    have : encD (b :: d) = [.int .u8 b] :: encD d := rfl
    rw [this, bareAll_cons, ih]
    rfl
theorem cellsD_bare (d : List Int) : (cellsD d).map PV.bare = cellsD d := by simp [cellsD, PV.bare]
@[go_sem] theorem cellsD_len (d : List Int) : (cellsD d).length = d.length := by simp [cellsD]

/-- Entries, each with the place of its bytes. -/
def encO (ps : List (Nat × Ent)) : List (List PV) := ps.map fun p => [.int .i64 p.2.i, .int .i64 p.2.t, .arr .no p.1 0 p.2.d.length 1]
@[go_sem] theorem encO_len (ps : List (Nat × Ent)) : (encO ps).length = ps.length := by simp [encO]
def SO (S : Store) : List (Nat × Ent) → Store
  | [] => S
  | p :: ps => (SO S ps).set p.1 (some (cellsD p.2.d))
theorem SO_out {S : Store} : ∀ {ps : List (Nat × Ent)} {i : Nat}, (∀ p ∈ ps, p.1 ≠ i) → SO S ps i = S i
  | [], _, _ => rfl
  | p :: ps, i, h => by
    have : i ≠ p.1 := fun e => h p (List.mem_cons_self ..) e.symm
    simp only [SO, Store.set, if_neg this]
    exact SO_out fun q hq => h q (List.mem_cons_of_mem _ hq)
theorem SO_in {S : Store} : ∀ {ps : List (Nat × Ent)} {p : Nat × Ent}, (ps.map (·.1)).Nodup → p ∈ ps → SO S ps p.1 = some (cellsD p.2.d)
  | [], _, _, h => by cases h
  | q :: ps, p, hn, hp => by
    simp only [List.map_cons, List.nodup_cons, List.mem_map, not_exists, not_and] at hn
    rcases List.mem_cons.1 hp with rfl | hp
    · simp [SO, Store.set]
    · have : p.1 ≠ q.1 := fun e => hn.1 p hp e
      simp only [SO, Store.set, if_neg this]
      exact SO_in hn.2 hp

theorem cloneD_spec (d : List Int) (hd : d.length ≤ 140737488351232) (S : Store) (K : PV → Store → Prop) (hK : ∀ id, S id = none → K (.arr .tail id 0 d.length 1) (S.set id (some (cellsD d)))) : PCalls Try.prog 37 [.sl .no 1 (encD d)] S K := by
  refine pcalls_of (C := C) (fun d => d == 2) (fun d => d == 2 || d == 7) Try.func37 rfl rfl (by simp [Try.f37]) ?_
  simp -implicitDefEqProofs only [go_sem, ↓reduceIte, Nat.reduceEqDiff, Nat.reduceLT, Nat.reduceLeDiff, Nat.reduceAdd, Nat.reduceMul, Nat.reduceSub, reduceCtorEq, Nat.reduceMod, Nat.reduceBEq, Int.reduceBEq, Int.reduceBNe, Int.reduceToNat, Try.f37]
  intro id0 hid0 b hb
  have fin : ∀ id, S id = none → ∀ i c, (S.set id (some (cellsD d))) i = some c → ((S.set id0 (some [])).set id (some (cellsD d))) i = some c := by
    intro id hid i c hi
    simp only [Store.set] at hi ⊢
    split
    · rename_i h; rw [if_pos h] at hi; exact hi
    · rename_i h
      rw [if_neg h] at hi
      rw [if_neg (fun e => by rw [e, hid0] at hi; cases hi)]
      exact hi
  cases b
  · simp -implicitDefEqProofs only [go_sem, ↓reduceIte, Nat.reduceEqDiff, Nat.reduceLT, Nat.reduceLeDiff, Nat.reduceAdd, Nat.reduceMul, Nat.reduceSub, reduceCtorEq, Nat.reduceMod, Nat.reduceBEq, Int.reduceBEq, Int.reduceBNe, Int.reduceToNat]
    have h1 : d.length * 1 ≤ 140737488355328 ∧ d.length ≤ 140737488355328 := by omega
    simp -implicitDefEqProofs only [go_sem, ↓reduceIte, Nat.reduceEqDiff, Nat.reduceLT, Nat.reduceLeDiff, Nat.reduceAdd, Nat.reduceMul, Nat.reduceSub, reduceCtorEq, Nat.reduceMod, Nat.reduceBEq, Int.reduceBEq, Int.reduceBNe, Int.reduceToNat, h1, bareAll_encD]
    intro id hid
    obtain ⟨h2, h3⟩ := set_none hid
    exact ⟨_, fin id h3, hK id h3⟩
  · have h0 := hb rfl
    have hl0 : d = [] := List.eq_nil_of_length_eq_zero (by rw [← len_encD, h0]; rfl)
    subst hl0
    simp -implicitDefEqProofs only [go_sem, ↓reduceIte, Nat.reduceEqDiff, Nat.reduceLT, Nat.reduceLeDiff, Nat.reduceAdd, Nat.reduceMul, Nat.reduceSub, reduceCtorEq, Nat.reduceMod, Nat.reduceBEq, Int.reduceBEq, Int.reduceBNe, Int.reduceToNat]
    intro id hid
    obtain ⟨h2, h3⟩ := set_none hid
    exact ⟨_, fin id h3, hK id h3⟩

theorem ownO_spec (l : List Ent) (hl : l.length ≤ 100000) (hd : ∀ e ∈ l, e.d.length ≤ 140737488351232) (S : Store) (K : PV → Store → Prop)
    (hK : ∀ ps : List (Nat × Ent), ps.map (·.2) = l → (ps.map (·.1)).Nodup → (∀ p ∈ ps, S p.1 = none) → K (.sl .tail 3 (encO ps)) (SO S ps.reverse)) : PCalls Try.prog 38 [.sl .no 3 (encL l)] S K := by
  refine pcalls_of (C := C) (fun d => d == 16 || d == 3 || d == 21 || d == 2) (fun d => d == 5) Try.func38 rfl rfl (by simp [Try.f38]) ?_
  simp -implicitDefEqProofs only [go_sem, ↓reduceIte, Nat.reduceEqDiff, Nat.reduceLT, Nat.reduceLeDiff, Nat.reduceAdd, Nat.reduceMul, Nat.reduceSub, reduceCtorEq, Nat.reduceMod, Nat.reduceBEq, Int.reduceBEq, Int.reduceBNe, Int.reduceToNat, Try.f38]
  refine vloop (fun e S' => ∃ (k : Nat) (ps : List (Nat × Ent)), S' = SO S ps.reverse ∧ ps.map (·.2) = l.take k ∧ (ps.map (·.1)).Nodup ∧ (∀ p ∈ ps, S p.1 = none) ∧ k ≤ l.length ∧ e 6 = .sl .no 3 (encL l) ∧ e 7 = .int .i64 l.length ∧ e 8 = .int .i64 k ∧ e 3 = .sl .tail 3 (encO ps)) (fun e _ => l.length - iv (e 8)) ?_ ?_
  · exact ⟨0, [], rfl, rfl, by simp, by simp, Nat.zero_le _, rfl, rfl, rfl, rfl⟩
  · rintro J M Q' hJ hM hQ e S' ⟨k, ps, rfl, hps, hnd, hno, hk, h6, h7, h8, h3⟩
    simp -implicitDefEqProofs only [go_sem, ↓reduceIte, Nat.reduceEqDiff, Nat.reduceLT, Nat.reduceLeDiff, Nat.reduceAdd, Nat.reduceMul, Nat.reduceSub, reduceCtorEq, Nat.reduceMod, Nat.reduceBEq, Int.reduceBEq, Int.reduceBNe, Int.reduceToNat, h7, h8]
    have hpl : ps.length = k := by
      have := congrArg List.length hps
      simpa [hk] using this
    by_cases hlt : k < l.length
    · obtain ⟨x, hx⟩ : ∃ x, l[k]? = some x := ⟨_, List.getElem?_eq_getElem hlt⟩
      have hin : (0 : Int) ≤ k ∧ (k : Int) < l.length := by omega
      have hk1 : IntKind.i64.wrap ((k : Int) + 1) = ((k + 1 : Nat) : Int) := wrap64 (by omega) (by omega)
      simp -implicitDefEqProofs only [go_sem, ↓reduceIte, Nat.reduceEqDiff, Nat.reduceLT, Nat.reduceLeDiff, Nat.reduceAdd, Nat.reduceMul, Nat.reduceSub, reduceCtorEq, Nat.reduceMod, Nat.reduceBEq, Int.reduceBEq, Int.reduceBNe, Int.reduceToNat, hin, h6, h7, h8, getD_encL hx, encE]
      intro id5 hid5
      refine cloneD_spec _ (hd x (List.mem_of_getElem? hx)) _ _ fun id hid => ?_
      obtain ⟨g1, g2⟩ := set_none hid
      have hne : id5 ≠ id := fun e => g1 e.symm
      have hset : ∀ c : List PV, ((SO S ps.reverse).set id5 (some c)).set id (some (cellsD x.d)) id5 = some c := by
        intro c
        simp [Store.set, hne]
      have hap : (k + 1) * 40 ≤ 140737488355328 ∧ k + 1 ≤ 140737488355328 := by omega
      simp -implicitDefEqProofs only [go_sem, ↓reduceIte, Nat.reduceEqDiff, Nat.reduceLT, Nat.reduceLeDiff, Nat.reduceAdd, Nat.reduceMul, Nat.reduceSub, reduceCtorEq, Nat.reduceMod, Nat.reduceBEq, Int.reduceBEq, Int.reduceBNe, Int.reduceToNat, h3, hset, hpl, hap, h8, hk1]
      have hnr : (ps.reverse.map (·.1)).Nodup := by rw [List.map_reverse]; exact List.pairwise_reverse.2 (hnd.imp Ne.symm)
      have hni : ∀ p ∈ ps, p.1 ≠ id := fun p hp e => by
        have := SO_in (S := S) hnr (List.mem_reverse.2 hp)
        rw [e, g2] at this
        cases this
      have hSid : S id = none := by
        rw [← SO_out (S := S) (ps := ps.reverse) (fun p hp => hni p (List.mem_reverse.1 hp))]
        exact g2
      refine vnext hJ hM ((SO S ps.reverse).set id (some (cellsD x.d))) (fun i c hi => ?_) ⟨k + 1, ps ++ [(id, x)], ?_, ?_, ?_, ?_, hlt, ?_, ?_, ?_, ?_⟩ ?_
      · simp only [Store.set] at hi ⊢
        by_cases e1 : i = id5
        · subst e1
          rw [if_neg hne, hid5] at hi
          cases hi
        · rw [if_neg e1, if_neg e1]
          exact hi
      · rw [List.reverse_append]
        rfl
      · rw [List.map_append, hps, List.take_add_one, hx]
        rfl
      · rw [List.map_append, List.nodup_append]
        refine ⟨hnd, by simp, fun a ha b hb => ?_⟩
        simp at hb
        subst hb
        obtain ⟨p, hp, rfl⟩ := List.mem_map.1 ha
        exact hni p hp
      · intro p hp
        rcases List.mem_append.1 hp with hp | hp
        · exact hno p hp
        · simp at hp
          subst hp
          exact hSid
      · simp -implicitDefEqProofs only [go_sem, ↓reduceIte, Nat.reduceEqDiff, Nat.reduceLT, Nat.reduceLeDiff, Nat.reduceAdd, Nat.reduceMul, Nat.reduceSub, reduceCtorEq, Nat.reduceMod, Nat.reduceBEq, Int.reduceBEq, Int.reduceBNe, Int.reduceToNat, h6]
      · simp -implicitDefEqProofs only [go_sem, ↓reduceIte, Nat.reduceEqDiff, Nat.reduceLT, Nat.reduceLeDiff, Nat.reduceAdd, Nat.reduceMul, Nat.reduceSub, reduceCtorEq, Nat.reduceMod, Nat.reduceBEq, Int.reduceBEq, Int.reduceBNe, Int.reduceToNat, h7]
      · simp -implicitDefEqProofs only [go_sem, ↓reduceIte, Nat.reduceEqDiff, Nat.reduceLT, Nat.reduceLeDiff, Nat.reduceAdd, Nat.reduceMul, Nat.reduceSub, reduceCtorEq, Nat.reduceMod, Nat.reduceBEq, Int.reduceBEq, Int.reduceBNe, Int.reduceToNat]
      · simp -implicitDefEqProofs only [go_sem, ↓reduceIte, Nat.reduceEqDiff, Nat.reduceLT, Nat.reduceLeDiff, Nat.reduceAdd, Nat.reduceMul, Nat.reduceSub, reduceCtorEq, Nat.reduceMod, Nat.reduceBEq, Int.reduceBEq, Int.reduceBNe, Int.reduceToNat]
        simp [encO]
      · simp -implicitDefEqProofs only [go_sem, ↓reduceIte, Nat.reduceEqDiff, Nat.reduceLT, Nat.reduceLeDiff, Nat.reduceAdd, Nat.reduceMul, Nat.reduceSub, reduceCtorEq, Nat.reduceMod, Nat.reduceBEq, Int.reduceBEq, Int.reduceBNe, Int.reduceToNat]
        omega
    · have hc : ¬ (k : Int) < l.length := by omega
      simp -implicitDefEqProofs only [go_sem, ↓reduceIte, Nat.reduceEqDiff, Nat.reduceLT, Nat.reduceLeDiff, Nat.reduceAdd, Nat.reduceMul, Nat.reduceSub, reduceCtorEq, Nat.reduceMod, Nat.reduceBEq, Int.reduceBEq, Int.reduceBNe, Int.reduceToNat, hc]
      refine hQ _ _ _ ?_
      simp -implicitDefEqProofs only [go_sem, ↓reduceIte, Nat.reduceEqDiff, Nat.reduceLT, Nat.reduceLeDiff, Nat.reduceAdd, Nat.reduceMul, Nat.reduceSub, reduceCtorEq, Nat.reduceMod, Nat.reduceBEq, Int.reduceBEq, Int.reduceBNe, Int.reduceToNat, h3]
      rw [List.take_of_length_le (by omega)] at hps
      exact ⟨_, fun _ _ h => h, hK ps hps hnd hno⟩

def fromF (l : Lg) (x most : Int) : List Ent := if chk l && decide (l.i < x) && decide (x ≤ (lastF l.i l.t l.rows).1) && decide (1 ≤ most) then (l.rows.drop (x - l.i - 1).toNat).take most.toNat else []

theorem FromO_spec (l : Lg) (x most : Int) (hx : InR x) (hm : InR most) (hl : l.rows.length ≤ 100000) (hd : ∀ e ∈ l.rows, e.d.length ≤ 140737488351232) (S : Store) (K : PV → Store → Prop)
    (hK : ∀ (f : Fl) (ps : List (Nat × Ent)), ps.map (·.2) = fromF l x most → (ps.map (·.1)).Nodup → (∀ p ∈ ps, S p.1 = none) → K (.sl f 3 (encO ps)) (SO S ps.reverse)) : PCalls Try.prog 29 [encG l, .int .i64 x, .int .i64 most] S K := by
  refine pcalls_of (C := C) (fun _ => false) (fun _ => false) Try.func29 rfl rfl (by simp [Try.f29]) ?_
  have hfit : Fit l := by unfold Fit; omega
  unfold InR at hx hm
  simp -implicitDefEqProofs only [go_sem, ↓reduceIte, Nat.reduceEqDiff, Nat.reduceLT, Nat.reduceLeDiff, Nat.reduceAdd, Nat.reduceMul, Nat.reduceSub, reduceCtorEq, Nat.reduceMod, Nat.reduceBEq, Int.reduceBEq, Int.reduceBNe, Int.reduceToNat, Try.f29, encG]
  refine Last_spec l hfit _ _ ?_
  have no : fromF l x most = [] → K (.sl .tail 3 []) S := fun h => hK .tail [] (by rw [h]; rfl) (by simp) (by simp)
  cases hc : chk l
  · have h0 := no (by unfold fromF; rw [hc]; rfl)
    simp -implicitDefEqProofs only [go_sem, ↓reduceIte, Nat.reduceEqDiff, Nat.reduceLT, Nat.reduceLeDiff, Nat.reduceAdd, Nat.reduceMul, Nat.reduceSub, reduceCtorEq, Nat.reduceMod, Nat.reduceBEq, Int.reduceBEq, Int.reduceBNe, Int.reduceToNat, hc]
    refine check_spec l hfit _ _ ?_
    rw [hc]
    simp -implicitDefEqProofs only [go_sem, ↓reduceIte, Nat.reduceEqDiff, Nat.reduceLT, Nat.reduceLeDiff, Nat.reduceAdd, Nat.reduceMul, Nat.reduceSub, reduceCtorEq, Nat.reduceMod, Nat.reduceBEq, Int.reduceBEq, Int.reduceBNe, Int.reduceToNat, chkN_f]
    exact ⟨S, fun _ _ h => h, h0⟩
  · obtain ⟨c1, c2, c3, c4, hr⟩ := chk_iff hc
    have hle := lastF_le hc
    simp -implicitDefEqProofs only [go_sem, ↓reduceIte, Nat.reduceEqDiff, Nat.reduceLT, Nat.reduceLeDiff, Nat.reduceAdd, Nat.reduceMul, Nat.reduceSub, reduceCtorEq, Nat.reduceMod, Nat.reduceBEq, Int.reduceBEq, Int.reduceBNe, Int.reduceToNat, hc]
    refine check_spec l hfit _ _ ?_
    rw [hc]
    simp -implicitDefEqProofs only [go_sem, ↓reduceIte, Nat.reduceEqDiff, Nat.reduceLT, Nat.reduceLeDiff, Nat.reduceAdd, Nat.reduceMul, Nat.reduceSub, reduceCtorEq, Nat.reduceMod, Nat.reduceBEq, Int.reduceBEq, Int.reduceBNe, Int.reduceToNat, chkN_t]
    by_cases b1 : x ≤ l.i
    · have h0 := no (by unfold fromF; rw [if_neg]; simp; omega)
      simp -implicitDefEqProofs only [go_sem, ↓reduceIte, Nat.reduceEqDiff, Nat.reduceLT, Nat.reduceLeDiff, Nat.reduceAdd, Nat.reduceMul, Nat.reduceSub, reduceCtorEq, Nat.reduceMod, Nat.reduceBEq, Int.reduceBEq, Int.reduceBNe, Int.reduceToNat, b1]
      exact ⟨S, fun _ _ h => h, h0⟩
    · by_cases b2 : (lastF l.i l.t l.rows).1 < x
      · have h0 := no (by unfold fromF; rw [if_neg]; simp; omega)
        simp -implicitDefEqProofs only [go_sem, ↓reduceIte, Nat.reduceEqDiff, Nat.reduceLT, Nat.reduceLeDiff, Nat.reduceAdd, Nat.reduceMul, Nat.reduceSub, reduceCtorEq, Nat.reduceMod, Nat.reduceBEq, Int.reduceBEq, Int.reduceBNe, Int.reduceToNat, b1, b2]
        exact ⟨S, fun _ _ h => h, h0⟩
      · by_cases b3 : most < 1
        · have h0 := no (by unfold fromF; rw [if_neg]; simp; omega)
          simp -implicitDefEqProofs only [go_sem, ↓reduceIte, Nat.reduceEqDiff, Nat.reduceLT, Nat.reduceLeDiff, Nat.reduceAdd, Nat.reduceMul, Nat.reduceSub, reduceCtorEq, Nat.reduceMod, Nat.reduceBEq, Int.reduceBEq, Int.reduceBNe, Int.reduceToNat, b1, b2, b3]
          exact ⟨S, fun _ _ h => h, h0⟩
        · have hff : fromF l x most = (l.rows.drop (x - l.i - 1).toNat).take most.toNat := by
            unfold fromF
            rw [if_pos]
            simp
            exact ⟨⟨⟨hc, by omega⟩, by omega⟩, by omega⟩
          have hlast := lastF_i _ _ _ hr
          have w1 : IntKind.i64.wrap (x - l.i) = x - l.i := wrap64 (by omega) (by omega)
          have w2 : IntKind.i64.wrap (x - l.i - 1) = x - l.i - 1 := wrap64 (by omega) (by omega)
          have s1 : 0 ≤ x - l.i - 1 ∧ x - l.i - 1 ≤ (l.rows.length : Int) ∧ (l.rows.length : Int) ≤ l.rows.length := by omega
          have htk : List.take (l.rows.length - (x - l.i - 1).toNat) (List.drop (x - l.i - 1).toNat l.rows) = List.drop (x - l.i - 1).toNat l.rows := List.take_of_length_le (by simp)
          simp -implicitDefEqProofs only [go_sem, ↓reduceIte, Nat.reduceEqDiff, Nat.reduceLT, Nat.reduceLeDiff, Nat.reduceAdd, Nat.reduceMul, Nat.reduceSub, reduceCtorEq, Nat.reduceMod, Nat.reduceBEq, Int.reduceBEq, Int.reduceBNe, Int.reduceToNat, b1, b2, b3, w1, w2, s1, htk]
          generalize hR : List.drop (x - l.i - 1).toNat l.rows = R at hff ⊢
          have hmin : 0 ≤ (if (R.length : Int) < most then (R.length : Int) else most) ∧ (if (R.length : Int) < most then (R.length : Int) else most) ≤ R.length := by split <;> omega
          have htake : List.take (if (R.length : Int) < most then (R.length : Int) else most).toNat R = List.take most.toNat R := by
            split
            · rw [Int.toNat_natCast, List.take_of_length_le (Nat.le_refl _), List.take_of_length_le (by omega)]
            · rfl
          refine ⟨⟨Int.le_refl _, hmin⟩, ?_⟩
          have hsub : ∀ e ∈ List.take most.toNat R, e ∈ l.rows := fun e he => List.mem_of_mem_drop (hR ▸ List.mem_of_mem_take he)
          have hRl : R.length ≤ 100000 := by rw [← hR, List.length_drop]; omega
          rw [htake, ← hff]
          refine ownO_spec _ (by rw [hff, List.length_take]; omega) (fun e he => hd e (hsub e (by rw [← hff]; exact he))) _ _ fun ps h1 h2 h3 => ?_
          simp -implicitDefEqProofs only [go_sem, ↓reduceIte, Nat.reduceEqDiff, Nat.reduceLT, Nat.reduceLeDiff, Nat.reduceAdd, Nat.reduceMul, Nat.reduceSub, reduceCtorEq, Nat.reduceMod, Nat.reduceBEq, Int.reduceBEq, Int.reduceBNe, Int.reduceToNat]
          exact ⟨_, fun _ _ h => h, hK .no ps h1 h2 h3⟩
end Go.Proofs.Ytjdfajibflodbaa.V
