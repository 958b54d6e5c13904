/- Maps: calls as plain lists: short lists, what is made of them, what their events tell. -/
import Derived.Test.YtmplfmhcpkmpbaaKW
set_option linter.unusedVariables false
set_option linter.unusedSimpArgs false
namespace Go.Proofs.Ytmplfmhcpkmpbaa.V
open Go Go.VL

theorem look_drop {k x : ByteArray} (h : same k x = false) : ∀ L : List Pr, look x (dropL k L) = look x L
  | [] => rfl
  | p :: L => by
    have ih := look_drop h L
    unfold dropL at ih ⊢
    rw [List.filter_cons]
    cases c : same p.1 k
    · simp only [Bool.not_false, if_true, look, ih]
    · have := same_iff.1 c
      simp only [Bool.not_true, Bool.false_eq_true, if_false, look, this, h, ih]
theorem look_put_ne {L : List Pr} (hs : Sorted L) {k x : ByteArray} (h : same k x = false) (v : ByteArray) : look x (putL k v L) = look x L := by
  rw [← look_drop h L, drop_two hs, putL, look_app, look_app, look, h]
  simp
theorem look_put_self (L : List Pr) (k v : ByteArray) : look k (putL k v L) = some v := by
  rw [putL, look_app, look_none (fun a ha => same_lt (mem_below.1 ha).2), look, same_refl]
  simp
theorem look_drop_self (L : List Pr) (k : ByteArray) : look k (dropL k L) = none := by
  refine look_none fun a ha => ?_
  unfold dropL at ha
  simpa using (List.mem_filter.1 ha).2
theorem look_evDo {L : List Pr} (hs : Sorted L) {e : KV} {x : ByteArray} (h : same e.k x = false) : look x (evDo L e) = look x L := by
  unfold evDo
  split
  · exact look_put_ne hs h _
  · exact look_drop h L

/-- Each event tells what its key had just ahead of it, and that something changed. -/
def told (L : List Pr) : List KV → Prop
  | [] => True
  | e :: E => (e.had = hasQ L e.k ∧ e.old = getQ L e.k ∧ (e.had == e.has && same e.old e.now) = false) ∧ told (evDo L e) E
theorem told_app : ∀ (E F : List KV) (L : List Pr), told L E → told (takeF L E) F → told L (E ++ F)
  | [], F, L, _, h => h
  | e :: E, F, L, h1, h2 => ⟨h1.1, told_app E F _ h1.2 h2⟩
theorem told_get : ∀ (E : List KV) (L : List Pr) (k : Nat) (e : KV), told L E → E[k]? = some e →
    e.had = hasQ (takeF L (E.take k)) e.k ∧ e.old = getQ (takeF L (E.take k)) e.k ∧ (e.had == e.has && same e.old e.now) = false
  | [], L, k, e, _, h => by simp at h
  | x :: E, L, 0, e, h1, h => by
    simp at h
    subst h
    exact h1.1
  | x :: E, L, k + 1, e, h1, h => told_get E (evDo L x) k e h1.2 (by simpa using h)
theorem right_dist : ∀ (l pre : List KO), rightF pre l = 0 → l.Pairwise (fun a b => same a.k b.k = false) ∧ ∀ o ∈ l, seenQ o.k pre = false
  | [], pre, _ => ⟨.nil, by simp⟩
  | o :: l, pre, h => by
    unfold rightF at h
    split at h
    · split at h
      · cases h
      · split at h
        · cases h
        · rename_i hs
          obtain ⟨h1, h2⟩ := right_dist l (pre ++ [o]) h
          have h3 : ∀ x ∈ l, seenQ x.k pre = false ∧ same o.k x.k = false := fun x hx => by
            have := h2 x hx
            rw [seenQ_snoc] at this
            simpa using this
          refine ⟨List.pairwise_cons.2 ⟨fun x hx => (h3 x hx).2, h1⟩, fun x hx => ?_⟩
          rcases List.mem_cons.1 hx with rfl | hx
          · simpa using hs
          · exact (h3 x hx).1
    · cases h
theorem plan_told (L : List Pr) (pos : Int) : ∀ (ops : List KO) (L' : List Pr), Sorted L' → (∀ o ∈ ops, look o.k L' = look o.k L) → ops.Pairwise (fun a b => same a.k b.k = false) → told L' (planE L pos ops)
  | [], L', _, _, _ => trivial
  | o :: ops, L', hs, hl, hp => by
    obtain ⟨p1, p2⟩ := List.pairwise_cons.1 hp
    have ho := hl o List.mem_cons_self
    unfold planE
    rw [List.flatMap_cons]
    unfold evOf
    cases c : condQ L o
    · simp only [Bool.false_eq_true, if_false]
      refine ⟨⟨?_, ?_, c⟩, plan_told L pos ops _ (evDo_sorted hs _) (fun x hx => ?_) p2⟩
      · show hasQ L o.k = hasQ L' o.k
        unfold hasQ
        rw [ho]
      · show getQ L o.k = getQ L' o.k
        unfold getQ
        rw [ho]
      · rw [look_evDo hs (p1 x hx)]
        exact hl x (List.mem_cons_of_mem _ hx)
    · exact plan_told L pos ops L' hs (fun x hx => hl x (List.mem_cons_of_mem _ hx)) p2
theorem planF_told {L : List Pr} (hs : Sorted L) (pos : Int) (conds ops : List KO) : told L (planF L pos conds ops).1 := by
  unfold planF
  split
  · rename_i hc
    obtain ⟨_, _, _, h4⟩ := checkF_len hc
    split
    · split
      · trivial
      · exact plan_told L pos ops L hs (fun _ _ => rfl) (right_dist ops [] h4).1
    · trivial
  · trivial
theorem doF_take (L : List Pr) (pos : Int) (conds ops : List KO) : doF L pos conds ops = takeF L (planF L pos conds ops).1 := by
  unfold doF
  split
  · rfl
  · rename_i h
    unfold planF at h ⊢
    split
    · rename_i hc
      rw [if_pos hc] at h
      split
      · rename_i ha
        rw [if_pos ha] at h
        split
        · rfl
        · rename_i hp
          rw [if_neg hp] at h
          exact absurd rfl h
      · rfl
    · rfl

/-! ### calls -/
def opN (x : Int) : Int := IntKind.i64.wrap ((IntKind.u64.wrap x).tmod 8)
def stepM (s : List Pr × List KV) (d : KD) : List Pr × List KV :=
  if opN d.op < 4 then (doF s.1 d.pos d.conds d.ops, s.2 ++ (planF s.1 d.pos d.conds d.ops).1) else s
def madeF (l : List KD) : List Pr × List KV := l.foldl stepM ([], [])
theorem madeF_take {l : List KD} {k : Nat} {d : KD} (h : l[k]? = some d) : madeF (l.take (k + 1)) = stepM (madeF (l.take k)) d := by
  rw [List.take_add_one, h]
  simp [madeF]
theorem takeF_app (L : List Pr) (E F : List KV) : takeF L (E ++ F) = takeF (takeF L E) F := List.foldl_append ..
def GoodM (n : Nat) (s : List Pr × List KV) : Prop := Sorted s.1 ∧ s.1.length ≤ 6 * n ∧ s.2.length ≤ 6 * n ∧ told [] s.2 ∧ takeF [] s.2 = s.1
theorem good_step {n : Nat} {s : List Pr × List KV} (h : GoodM n s) (d : KD) : GoodM (n + 1) (stepM s d) := by
  obtain ⟨h1, h2, h3, h4, h5⟩ := h
  unfold stepM
  split
  · obtain ⟨d1, d2⟩ := doF_ok h1 d.pos d.conds d.ops
    have d3 := planF_len s.1 d.pos d.conds d.ops
    refine ⟨d1, by dsimp only; omega, by simp only [List.length_append]; omega, told_app _ _ _ h4 (by rw [h5]; exact planF_told h1 _ _ _), ?_⟩
    show takeF [] (s.2 ++ _) = _
    rw [takeF_app, h5, doF_take]
  · exact ⟨h1, by omega, by omega, h4, h5⟩
theorem good_made : ∀ (l : List KD) (n : Nat) (s : List Pr × List KV), GoodM n s → GoodM (n + l.length) (l.foldl stepM s)
  | [], n, s, h => h
  | d :: l, n, s, h => by
    have := good_made l (n + 1) _ (good_step h d)
    rw [show n + 1 + l.length = n + (d :: l).length by simp only [List.length_cons]; omega] at this
    exact this
theorem made_good (l : List KD) : GoodM l.length (madeF l) := by
  have := good_made l 0 ([], []) ⟨List.Pairwise.nil, by simp, by simp, trivial, rfl⟩
  rwa [Nat.zero_add] at this

def costD (d : KD) : Nat := weighF 0 d.conds + weighF 0 d.ops + min d.frm.size 32768 + min d.to.size 32768 + min d.ev.k.size 32768 + min d.ev.now.size 32768
def shortN (k n : Nat) : List KD → Nat
  | [] => n
  | d :: l => if k ≤ 100 ∧ n ≤ 32768 then shortN (k + 1) (n + costD d) l else n
def shortQ (l : List KD) : Bool := decide (l.length ≤ 100) && decide (shortN 0 0 l ≤ 32768)
theorem shortN_fit : ∀ (l : List KD) (k n : Nat), k + l.length ≤ 100 → shortN k n l ≤ 32768 → n ≤ 32768 ∧ ∀ d ∈ l, costD d ≤ 32768
  | [], k, n, _, h => ⟨h, by simp⟩
  | d :: l, k, n, hk, h => by
    simp only [List.length_cons] at hk
    unfold shortN at h
    split at h
    · obtain ⟨h1, h2⟩ := shortN_fit l (k + 1) _ (by omega) h
      refine ⟨by omega, fun x hx => ?_⟩
      rcases List.mem_cons.1 hx with rfl | hx
      · omega
      · exact h2 x hx
    · rename_i hn
      exact absurd ⟨by omega, h⟩ hn
theorem short_fit {l : List KD} (h : shortQ l = true) : l.length ≤ 100 ∧ ∀ d ∈ l, weighF 0 d.conds ≤ 32768 ∧ weighF 0 d.ops ≤ 32768 := by
  unfold shortQ at h
  rw [Bool.and_eq_true, decide_eq_true_eq, decide_eq_true_eq] at h
  obtain ⟨h1, h2⟩ := h
  obtain ⟨_, h3⟩ := shortN_fit l 0 0 (by omega) h2
  exact ⟨h1, fun d hd => by have := h3 d hd; unfold costD at this; omega⟩
theorem costD_le (d : KD) : costD d ≤ 331072 := by
  have h1 := weighF_lt d.conds 0 (by omega)
  have h2 := weighF_lt d.ops 0 (by omega)
  unfold costD
  omega

set_option maxHeartbeats 2000000 in
theorem short_spec (l : List KD) (S : Store) : PRet Try.prog 17 [.sl .no 12 (encDs l)] S (.bool (shortQ l)) := by
  intro K hK
  refine pcalls_of (C := C) (fun _ => false) (fun _ => false) Try.func17 rfl rfl (by simp [Try.f17]) ?_
  simp -implicitDefEqProofs only [go_sem, ↓reduceIte, Nat.reduceEqDiff, Nat.reduceLT, Nat.reduceLeDiff, Nat.reduceAdd, Nat.reduceMul, Nat.reduceSub, reduceCtorEq, Nat.reduceMod, Nat.reduceBEq, Int.reduceBEq, Int.reduceBNe, Int.reduceToNat, Try.f17]
  refine vloop (fun e S' => S' = S ∧ ∃ (k n : Nat), k ≤ l.length ∧ k ≤ 101 ∧ n ≤ 400000 ∧ shortN 0 0 l = shortN k n (l.drop k) ∧ e 0 = .sl .no 12 (encDs l) ∧ e 3 = .int .i64 n ∧ e 4 = .int .i64 k) (fun e _ => 101 - iv (e 4)) ?_ ?_
  · exact ⟨rfl, 0, 0, Nat.zero_le _, Nat.zero_le _, Nat.zero_le _, rfl, rfl, rfl, rfl⟩
  · rintro J M Q' hJ hM hQ e S' ⟨rfl, k, n, hk, hk1, hn, hr, e0, e3, e4⟩
    by_cases hlt : k < l.length
    · obtain ⟨d, hd⟩ : ∃ d, l[k]? = some d := ⟨_, List.getElem?_eq_getElem hlt⟩
      have hin : (0 : Int) ≤ k ∧ (k : Int) < l.length := by omega
      rw [drop_cons hd, shortN] at hr
      by_cases h1 : k ≤ 100
      · have d1 : (k : Int) ≤ 100 := by omega
        by_cases h2 : n ≤ 32768
        · have d2 : (n : Int) ≤ 32768 := by omega
          rw [if_pos ⟨h1, h2⟩] at hr
          have hcl := costD_le d
          have c1 := weighF_lt d.conds 0 (by omega)
          have c2 := weighF_lt d.ops 0 (by omega)
          have hcd : costD d = weighF 0 d.conds + weighF 0 d.ops + min d.frm.size 32768 + min d.to.size 32768 + min d.ev.k.size 32768 + min d.ev.now.size 32768 := rfl
          have mm : ∀ x : Nat, (if (32768 : Int) < (x : Int) then (32768 : Int) else (x : Int)) = ((min x 32768 : Nat) : Int) := fun x => by split <;> omega
          have hkk : IntKind.i64.wrap ((k : Int) + 1) = ((k + 1 : Nat) : Int) := wrap64 (by omega) (by omega)
          generalize hw1 : weighF 0 d.conds = a1 at *
          generalize hw2 : weighF 0 d.ops = a2 at *
          have z1 : ∀ x : Nat, min x 32768 ≤ 32768 := fun x => by omega
          have z3 := z1 d.frm.size
          have z4 := z1 d.to.size
          have z5 := z1 d.ev.k.size
          have z6 := z1 d.ev.now.size
          generalize hw3 : min d.frm.size 32768 = a3 at *
          generalize hw4 : min d.to.size 32768 = a4 at *
          generalize hw5 : min d.ev.k.size 32768 = a5 at *
          generalize hw6 : min d.ev.now.size 32768 = a6 at *
          have m3 := mm d.frm.size
          have m4 := mm d.to.size
          have m5 := mm d.ev.k.size
          have m6 := mm d.ev.now.size
          rw [hw3] at m3
          rw [hw4] at m4
          rw [hw5] at m5
          rw [hw6] at m6
          have w2 : IntKind.i64.wrap ((a1 : Int) + (a2 : Int)) = ((a1 + a2 : Nat) : Int) := by rw [wrap64 (by omega) (by omega)]; omega
          have w3 : IntKind.i64.wrap (((a1 + a2 : Nat) : Int) + (a3 : Int)) = ((a1 + a2 + a3 : Nat) : Int) := by rw [wrap64 (by omega) (by omega)]; omega
          have w4 : IntKind.i64.wrap (((a1 + a2 + a3 : Nat) : Int) + (a4 : Int)) = ((a1 + a2 + a3 + a4 : Nat) : Int) := by rw [wrap64 (by omega) (by omega)]; omega
          have w5 : IntKind.i64.wrap (((a1 + a2 + a3 + a4 : Nat) : Int) + (a5 : Int)) = ((a1 + a2 + a3 + a4 + a5 : Nat) : Int) := by rw [wrap64 (by omega) (by omega)]; omega
          have w6 : IntKind.i64.wrap (((a1 + a2 + a3 + a4 + a5 : Nat) : Int) + (a6 : Int)) = (costD d : Int) := by rw [hcd, wrap64 (by omega) (by omega)]; omega
          have w7 : IntKind.i64.wrap ((n : Int) + (costD d : Int)) = ((n + costD d : Nat) : Int) := by rw [wrap64 (by omega) (by omega)]; omega
          simp -implicitDefEqProofs only [go_sem, ↓reduceIte, Nat.reduceEqDiff, Nat.reduceLT, Nat.reduceLeDiff, Nat.reduceAdd, Nat.reduceMul, Nat.reduceSub, reduceCtorEq, Nat.reduceMod, Nat.reduceBEq, Int.reduceBEq, Int.reduceBNe, Int.reduceToNat, hin, hlt, d1, d2, e0, e3, e4]
          refine vwp_draw (by decide +kernel) ?_
          simp -implicitDefEqProofs only [go_sem, ↓reduceIte, Nat.reduceEqDiff, Nat.reduceLT, Nat.reduceLeDiff, Nat.reduceAdd, Nat.reduceMul, Nat.reduceSub, reduceCtorEq, Nat.reduceMod, Nat.reduceBEq, Int.reduceBEq, Int.reduceBNe, Int.reduceToNat, hin, e0, e3, e4, getD_encDs hd]
          refine q_call _ (by simp -implicitDefEqProofs only [go_sem, ↓reduceIte, Nat.reduceEqDiff, Nat.reduceLT, Nat.reduceLeDiff, Nat.reduceAdd, Nat.reduceMul, Nat.reduceSub, reduceCtorEq, Nat.reduceMod, Nat.reduceBEq, Int.reduceBEq, Int.reduceBNe, Int.reduceToNat]; exact weigh_spec d.conds _) (by decide) rfl ?_
          rw [hw1]
          simp -implicitDefEqProofs only [go_sem, ↓reduceIte, Nat.reduceEqDiff, Nat.reduceLT, Nat.reduceLeDiff, Nat.reduceAdd, Nat.reduceMul, Nat.reduceSub, reduceCtorEq, Nat.reduceMod, Nat.reduceBEq, Int.reduceBEq, Int.reduceBNe, Int.reduceToNat, hin, e0, e4, getD_encDs hd]
          refine q_call _ (by simp -implicitDefEqProofs only [go_sem, ↓reduceIte, Nat.reduceEqDiff, Nat.reduceLT, Nat.reduceLeDiff, Nat.reduceAdd, Nat.reduceMul, Nat.reduceSub, reduceCtorEq, Nat.reduceMod, Nat.reduceBEq, Int.reduceBEq, Int.reduceBNe, Int.reduceToNat]; exact weigh_spec d.ops _) (by decide) rfl ?_
          rw [hw2]
          simp -implicitDefEqProofs only [go_sem, ↓reduceIte, Nat.reduceEqDiff, Nat.reduceLT, Nat.reduceLeDiff, Nat.reduceAdd, Nat.reduceMul, Nat.reduceSub, reduceCtorEq, Nat.reduceMod, Nat.reduceBEq, Int.reduceBEq, Int.reduceBNe, Int.reduceToNat, hin, e0, e3, e4, getD_encDs hd, m3, m4, m5, m6, w2, w3, w4, w5, w6, w7, hkk]
          refine vnext hJ hM S' (fun _ _ h => h) ⟨rfl, k + 1, n + costD d, hlt, by omega, by omega, hr, ?_, ?_, ?_⟩ ?_
          · simp -implicitDefEqProofs only [go_sem, ↓reduceIte, Nat.reduceEqDiff, Nat.reduceLT, Nat.reduceLeDiff, Nat.reduceAdd, Nat.reduceMul, Nat.reduceSub, reduceCtorEq, Nat.reduceMod, Nat.reduceBEq, Int.reduceBEq, Int.reduceBNe, Int.reduceToNat, e0]
          · simp -implicitDefEqProofs only [go_sem, ↓reduceIte, Nat.reduceEqDiff, Nat.reduceLT, Nat.reduceLeDiff, Nat.reduceAdd, Nat.reduceMul, Nat.reduceSub, reduceCtorEq, Nat.reduceMod, Nat.reduceBEq, Int.reduceBEq, Int.reduceBNe, Int.reduceToNat]
          · simp -implicitDefEqProofs only [go_sem, ↓reduceIte, Nat.reduceEqDiff, Nat.reduceLT, Nat.reduceLeDiff, Nat.reduceAdd, Nat.reduceMul, Nat.reduceSub, reduceCtorEq, Nat.reduceMod, Nat.reduceBEq, Int.reduceBEq, Int.reduceBNe, Int.reduceToNat]
          · simp -implicitDefEqProofs only [go_sem, ↓reduceIte, Nat.reduceEqDiff, Nat.reduceLT, Nat.reduceLeDiff, Nat.reduceAdd, Nat.reduceMul, Nat.reduceSub, reduceCtorEq, Nat.reduceMod, Nat.reduceBEq, Int.reduceBEq, Int.reduceBNe, Int.reduceToNat, e4]
            omega
        · have d2 : ¬ (n : Int) ≤ 32768 := by omega
          rw [if_neg (by omega)] at hr
          simp -implicitDefEqProofs only [go_sem, ↓reduceIte, Nat.reduceEqDiff, Nat.reduceLT, Nat.reduceLeDiff, Nat.reduceAdd, Nat.reduceMul, Nat.reduceSub, reduceCtorEq, Nat.reduceMod, Nat.reduceBEq, Int.reduceBEq, Int.reduceBNe, Int.reduceToNat, hin, hlt, d1, d2, e0, e3, e4]
          refine hQ _ _ _ ?_
          unfold shortQ at hK
          rw [hr, show decide (n ≤ 32768) = false by simp; omega, Bool.and_false] at hK
          by_cases hl : (l.length : Int) ≤ 100
          · simp -implicitDefEqProofs only [go_sem, ↓reduceIte, Nat.reduceEqDiff, Nat.reduceLT, Nat.reduceLeDiff, Nat.reduceAdd, Nat.reduceMul, Nat.reduceSub, reduceCtorEq, Nat.reduceMod, Nat.reduceBEq, Int.reduceBEq, Int.reduceBNe, Int.reduceToNat, e0, e3, hl, d2]
            exact ⟨S', fun _ _ h => h, hK⟩
          · simp -implicitDefEqProofs only [go_sem, ↓reduceIte, Nat.reduceEqDiff, Nat.reduceLT, Nat.reduceLeDiff, Nat.reduceAdd, Nat.reduceMul, Nat.reduceSub, reduceCtorEq, Nat.reduceMod, Nat.reduceBEq, Int.reduceBEq, Int.reduceBNe, Int.reduceToNat, e0, e3, hl, d2]
            exact ⟨S', fun _ _ h => h, hK⟩
      · have d1 : ¬ (k : Int) ≤ 100 := by omega
        simp -implicitDefEqProofs only [go_sem, ↓reduceIte, Nat.reduceEqDiff, Nat.reduceLT, Nat.reduceLeDiff, Nat.reduceAdd, Nat.reduceMul, Nat.reduceSub, reduceCtorEq, Nat.reduceMod, Nat.reduceBEq, Int.reduceBEq, Int.reduceBNe, Int.reduceToNat, hin, hlt, d1, e0, e3, e4]
        refine hQ _ _ _ ?_
        have hl : ¬ (l.length : Int) ≤ 100 := by omega
        unfold shortQ at hK
        rw [show decide (l.length ≤ 100) = false by simp; omega, Bool.false_and] at hK
        simp -implicitDefEqProofs only [go_sem, ↓reduceIte, Nat.reduceEqDiff, Nat.reduceLT, Nat.reduceLeDiff, Nat.reduceAdd, Nat.reduceMul, Nat.reduceSub, reduceCtorEq, Nat.reduceMod, Nat.reduceBEq, Int.reduceBEq, Int.reduceBNe, Int.reduceToNat, e0, e3, hl]
        exact ⟨S', fun _ _ h => h, hK⟩
    · have hcc : ¬ (k : Int) < l.length := by omega
      rw [List.drop_of_length_le (by omega), shortN] at hr
      simp -implicitDefEqProofs only [go_sem, ↓reduceIte, Nat.reduceEqDiff, Nat.reduceLT, Nat.reduceLeDiff, Nat.reduceAdd, Nat.reduceMul, Nat.reduceSub, reduceCtorEq, Nat.reduceMod, Nat.reduceBEq, Int.reduceBEq, Int.reduceBNe, Int.reduceToNat, hcc, e0, e4]
      refine hQ _ _ _ ?_
      unfold shortQ at hK
      rw [hr] at hK
      by_cases hl : l.length ≤ 100
      · have dl : (l.length : Int) ≤ 100 := by omega
        by_cases hn2 : n ≤ 32768
        · have dn : (n : Int) ≤ 32768 := by omega
          simp only [hl, hn2, decide_true, Bool.and_self] at hK
          simp -implicitDefEqProofs only [go_sem, ↓reduceIte, Nat.reduceEqDiff, Nat.reduceLT, Nat.reduceLeDiff, Nat.reduceAdd, Nat.reduceMul, Nat.reduceSub, reduceCtorEq, Nat.reduceMod, Nat.reduceBEq, Int.reduceBEq, Int.reduceBNe, Int.reduceToNat, e0, e3, dl, dn]
          exact ⟨S', fun _ _ h => h, hK⟩
        · have dn : ¬ (n : Int) ≤ 32768 := by omega
          simp only [hl, hn2, decide_true, decide_false, Bool.and_false] at hK
          simp -implicitDefEqProofs only [go_sem, ↓reduceIte, Nat.reduceEqDiff, Nat.reduceLT, Nat.reduceLeDiff, Nat.reduceAdd, Nat.reduceMul, Nat.reduceSub, reduceCtorEq, Nat.reduceMod, Nat.reduceBEq, Int.reduceBEq, Int.reduceBNe, Int.reduceToNat, e0, e3, dl, dn]
          exact ⟨S', fun _ _ h => h, hK⟩
      · have dl : ¬ (l.length : Int) ≤ 100 := by omega
        simp only [hl, decide_false, Bool.false_and] at hK
        simp -implicitDefEqProofs only [go_sem, ↓reduceIte, Nat.reduceEqDiff, Nat.reduceLT, Nat.reduceLeDiff, Nat.reduceAdd, Nat.reduceMul, Nat.reduceSub, reduceCtorEq, Nat.reduceMod, Nat.reduceBEq, Int.reduceBEq, Int.reduceBNe, Int.reduceToNat, e0, e3, dl]
        exact ⟨S', fun _ _ h => h, hK⟩

set_option maxHeartbeats 2000000 in
theorem made_calls (l : List KD) (hl : l.length ≤ 1000) (S : Store) (K : PV → Store → Prop)
    (hK : ∀ id t, S id = none → Km (S.set id (some [.ip [enc t] 0])) id t → t.list = (madeF l).1 → K (.tup [.ref id 0, .sl .no 6 (encVs (madeF l).2)]) (S.set id (some [.ip [enc t] 0]))) :
    PCalls Try.prog 18 [.sl .no 12 (encDs l)] S K := by
  refine pcalls_of (C := C) (fun d => d == 36 || d == 38 || d == 5) (fun _ => false) Try.func18 rfl rfl (by simp [Try.f18]) ?_
  simp -implicitDefEqProofs only [go_sem, ↓reduceIte, Nat.reduceEqDiff, Nat.reduceLT, Nat.reduceLeDiff, Nat.reduceAdd, Nat.reduceMul, Nat.reduceSub, reduceCtorEq, Nat.reduceMod, Nat.reduceBEq, Int.reduceBEq, Int.reduceBNe, Int.reduceToNat, Try.f18]
  refine KNew_calls _ _ fun id hid => ?_
  simp -implicitDefEqProofs only [go_sem, ↓reduceIte, Nat.reduceEqDiff, Nat.reduceLT, Nat.reduceLeDiff, Nat.reduceAdd, Nat.reduceMul, Nat.reduceSub, reduceCtorEq, Nat.reduceMod, Nat.reduceBEq, Int.reduceBEq, Int.reduceBNe, Int.reduceToNat]
  refine vloop (fun e S' => ∃ (k : Nat) (t : T), S' = S.set id (some [.ip [enc t] 0]) ∧ k ≤ l.length ∧ Km S' id t ∧ t.list = (madeF (l.take k)).1 ∧ e 4 = .ref id 0 ∧ e 5 = .sl .tail 6 (encVs (madeF (l.take k)).2) ∧ e 12 = .sl .no 12 (encDs l) ∧ e 13 = .int .i64 l.length ∧ e 14 = .int .i64 k) (fun e _ => l.length - iv (e 14)) ?_ ?_
  · exact ⟨0, .nil, rfl, Nat.zero_le _, Km.mk S id trivial List.Pairwise.nil, rfl, rfl, rfl, rfl, rfl, rfl⟩
  · rintro J M Q' hJ hM hQ e S' ⟨k, t, rfl, hk, km, ht, e4, e5, e12, e13, e14⟩
    by_cases hlt : k < l.length
    · obtain ⟨d, hd⟩ : ∃ d, l[k]? = some d := ⟨_, List.getElem?_eq_getElem hlt⟩
      have hin : (0 : Int) ≤ k ∧ (k : Int) < l.length := by omega
      have hk1 : IntKind.i64.wrap ((k : Int) + 1) = ((k + 1 : Nat) : Int) := wrap64 (by omega) (by omega)
      obtain ⟨g1, g2, g3, g4, g5⟩ := made_good (l.take k)
      rw [List.length_take] at g2 g3
      have hst := madeF_take hd
      unfold stepM at hst
      have hop : IntKind.i64.wrap ((IntKind.u64.wrap d.op).tmod 8) = opN d.op := rfl
      have h80 : (8 : Int) ≠ 0 := by decide
      by_cases ho : opN d.op < 4
      · rw [if_pos ho] at hst
        have hpl := planF_len (madeF (l.take k)).1 d.pos d.conds d.ops
        simp -implicitDefEqProofs only [go_sem, ↓reduceIte, Nat.reduceEqDiff, Nat.reduceLT, Nat.reduceLeDiff, Nat.reduceAdd, Nat.reduceMul, Nat.reduceSub, reduceCtorEq, Nat.reduceMod, Nat.reduceBEq, Int.reduceBEq, Int.reduceBNe, Int.reduceToNat, hin, hlt, e4, e5, e12, e13, e14, getD_encDs hd, hop, h80, ho]
        refine KDo_calls km (by rw [ht]; omega) d.pos d.conds d.ops _ fun q kq lq => ?_
        rw [set_set] at kq ⊢
        rw [ht] at lq ⊢
        unfold encPl
        have hap := small72 (k := (madeF (l.take k)).2.length + (planF (madeF (l.take k)).1 d.pos d.conds d.ops).1.length) (by omega)
        simp -implicitDefEqProofs only [go_sem, ↓reduceIte, Nat.reduceEqDiff, Nat.reduceLT, Nat.reduceLeDiff, Nat.reduceAdd, Nat.reduceMul, Nat.reduceSub, reduceCtorEq, Nat.reduceMod, Nat.reduceBEq, Int.reduceBEq, Int.reduceBNe, Int.reduceToNat, e4, e5, e14, hk1, hap]
        refine vnext hJ hM _ (fun _ _ h => h) ⟨k + 1, q, rfl, hlt, kq, ?_, ?_, ?_, ?_, ?_, ?_⟩ ?_
        · rw [lq, hst]
        · simp -implicitDefEqProofs only [go_sem, ↓reduceIte, Nat.reduceEqDiff, Nat.reduceLT, Nat.reduceLeDiff, Nat.reduceAdd, Nat.reduceMul, Nat.reduceSub, reduceCtorEq, Nat.reduceMod, Nat.reduceBEq, Int.reduceBEq, Int.reduceBNe, Int.reduceToNat, e4]
        · simp -implicitDefEqProofs only [go_sem, ↓reduceIte, Nat.reduceEqDiff, Nat.reduceLT, Nat.reduceLeDiff, Nat.reduceAdd, Nat.reduceMul, Nat.reduceSub, reduceCtorEq, Nat.reduceMod, Nat.reduceBEq, Int.reduceBEq, Int.reduceBNe, Int.reduceToNat]; rw [hst, encVs_app]
        · simp -implicitDefEqProofs only [go_sem, ↓reduceIte, Nat.reduceEqDiff, Nat.reduceLT, Nat.reduceLeDiff, Nat.reduceAdd, Nat.reduceMul, Nat.reduceSub, reduceCtorEq, Nat.reduceMod, Nat.reduceBEq, Int.reduceBEq, Int.reduceBNe, Int.reduceToNat, e12]
        · simp -implicitDefEqProofs only [go_sem, ↓reduceIte, Nat.reduceEqDiff, Nat.reduceLT, Nat.reduceLeDiff, Nat.reduceAdd, Nat.reduceMul, Nat.reduceSub, reduceCtorEq, Nat.reduceMod, Nat.reduceBEq, Int.reduceBEq, Int.reduceBNe, Int.reduceToNat, e13]
        · simp -implicitDefEqProofs only [go_sem, ↓reduceIte, Nat.reduceEqDiff, Nat.reduceLT, Nat.reduceLeDiff, Nat.reduceAdd, Nat.reduceMul, Nat.reduceSub, reduceCtorEq, Nat.reduceMod, Nat.reduceBEq, Int.reduceBEq, Int.reduceBNe, Int.reduceToNat]
        · simp -implicitDefEqProofs only [go_sem, ↓reduceIte, Nat.reduceEqDiff, Nat.reduceLT, Nat.reduceLeDiff, Nat.reduceAdd, Nat.reduceMul, Nat.reduceSub, reduceCtorEq, Nat.reduceMod, Nat.reduceBEq, Int.reduceBEq, Int.reduceBNe, Int.reduceToNat, e14]
          omega
      · rw [if_neg ho] at hst
        simp -implicitDefEqProofs only [go_sem, ↓reduceIte, Nat.reduceEqDiff, Nat.reduceLT, Nat.reduceLeDiff, Nat.reduceAdd, Nat.reduceMul, Nat.reduceSub, reduceCtorEq, Nat.reduceMod, Nat.reduceBEq, Int.reduceBEq, Int.reduceBNe, Int.reduceToNat, hin, hlt, e4, e5, e12, e13, e14, getD_encDs hd, hop, h80, ho, hk1]
        refine vnext hJ hM _ (fun _ _ h => h) ⟨k + 1, t, rfl, hlt, km, ?_, ?_, ?_, ?_, ?_, ?_⟩ ?_
        · rw [ht, hst]
        · simp -implicitDefEqProofs only [go_sem, ↓reduceIte, Nat.reduceEqDiff, Nat.reduceLT, Nat.reduceLeDiff, Nat.reduceAdd, Nat.reduceMul, Nat.reduceSub, reduceCtorEq, Nat.reduceMod, Nat.reduceBEq, Int.reduceBEq, Int.reduceBNe, Int.reduceToNat, e4]
        · simp -implicitDefEqProofs only [go_sem, ↓reduceIte, Nat.reduceEqDiff, Nat.reduceLT, Nat.reduceLeDiff, Nat.reduceAdd, Nat.reduceMul, Nat.reduceSub, reduceCtorEq, Nat.reduceMod, Nat.reduceBEq, Int.reduceBEq, Int.reduceBNe, Int.reduceToNat, e5]; rw [hst]
        · simp -implicitDefEqProofs only [go_sem, ↓reduceIte, Nat.reduceEqDiff, Nat.reduceLT, Nat.reduceLeDiff, Nat.reduceAdd, Nat.reduceMul, Nat.reduceSub, reduceCtorEq, Nat.reduceMod, Nat.reduceBEq, Int.reduceBEq, Int.reduceBNe, Int.reduceToNat, e12]
        · simp -implicitDefEqProofs only [go_sem, ↓reduceIte, Nat.reduceEqDiff, Nat.reduceLT, Nat.reduceLeDiff, Nat.reduceAdd, Nat.reduceMul, Nat.reduceSub, reduceCtorEq, Nat.reduceMod, Nat.reduceBEq, Int.reduceBEq, Int.reduceBNe, Int.reduceToNat, e13]
        · simp -implicitDefEqProofs only [go_sem, ↓reduceIte, Nat.reduceEqDiff, Nat.reduceLT, Nat.reduceLeDiff, Nat.reduceAdd, Nat.reduceMul, Nat.reduceSub, reduceCtorEq, Nat.reduceMod, Nat.reduceBEq, Int.reduceBEq, Int.reduceBNe, Int.reduceToNat]
        · simp -implicitDefEqProofs only [go_sem, ↓reduceIte, Nat.reduceEqDiff, Nat.reduceLT, Nat.reduceLeDiff, Nat.reduceAdd, Nat.reduceMul, Nat.reduceSub, reduceCtorEq, Nat.reduceMod, Nat.reduceBEq, Int.reduceBEq, Int.reduceBNe, Int.reduceToNat, e14]
          omega
    · have hcc : ¬ (k : Int) < l.length := by omega
      rw [List.take_of_length_le (by omega)] at e5 ht
      simp -implicitDefEqProofs only [go_sem, ↓reduceIte, Nat.reduceEqDiff, Nat.reduceLT, Nat.reduceLeDiff, Nat.reduceAdd, Nat.reduceMul, Nat.reduceSub, reduceCtorEq, Nat.reduceMod, Nat.reduceBEq, Int.reduceBEq, Int.reduceBNe, Int.reduceToNat, hcc, e13, e14]
      refine hQ _ _ _ ?_
      simp -implicitDefEqProofs only [go_sem, ↓reduceIte, Nat.reduceEqDiff, Nat.reduceLT, Nat.reduceLeDiff, Nat.reduceAdd, Nat.reduceMul, Nat.reduceSub, reduceCtorEq, Nat.reduceMod, Nat.reduceBEq, Int.reduceBEq, Int.reduceBNe, Int.reduceToNat, e4, e5]
      exact ⟨_, fun _ _ h => h, hK id t hid km ht⟩
end Go.Proofs.Ytmplfmhcpkmpbaa.V
