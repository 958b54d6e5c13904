/- Maps: their calls: made, how many keys, what a key has, and those from one on. -/
import Derived.Test.YtdioedabjaaboaaGreatKF
set_option linter.unusedVariables false
set_option linter.unusedSimpArgs false
namespace Go.Proofs.YtdioedabjaaboaaGreat.V
open Go Go.VL

theorem small40 {k : Nat} (h : k ≤ 3000000) : k * 40 ≤ 140737488355328 ∧ k ≤ 140737488355328 := by omega
theorem small72 {k : Nat} (h : k ≤ 1000000) : k * 72 ≤ 140737488355328 ∧ k ≤ 140737488355328 := by omega
theorem set_at (S : Store) (id : Nat) (c : Option (List PV)) : (S.set id c) id = c := by simp [Store.set]
theorem set_eta {S : Store} {id : Nat} {c : Option (List PV)} (h : S id = c) : S.set id c = S := by
 funext i
 simp only [Store.set]
 split
 ·rename_i e; rw [e, h]
 ·rfl
theorem set_set (S : Store) (id : Nat) (c d : Option (List PV)) : (S.set id c).set id d = S.set id d := by
 funext i
 simp only [Store.set]
 split <;> rfl

/-- A map as it is handed around. -/
def Km (S : Store) (id : Nat) (t : T) : Prop := S id = some [.ip [enc t] 0] ∧ Ok t ∧ Sorted t.list
theorem Km.at {S : Store} {id : Nat} {t : T} (h : Km S id t) : S id = some [.ip [enc t] 0] := h.1
theorem Km.mk (S : Store) (id : Nat) {t : T} (h1 : Ok t) (h2 : Sorted t.list) : Km (S.set id (some [.ip [enc t] 0])) id t := ⟨set_at _ _ _, h1, h2⟩

theorem KNew_calls (S : Store) (K : PV → Store → Prop) (hK : ∀ id, S id = none → K (.ref id 0) (S.set id (some [.ip [enc .nil] 0]))) : PCalls Tryz.prog 17 [] S K := by
 refine pcalls_of (C := C) (fun _ => false) (fun d => d == 3) Tryz.func17 rfl rfl (by simp [Tryz.f17]) ?_
 simp -implicitDefEqProofs only [go_sem, ↓reduceIte, Nat.reduceEqDiff, Nat.reduceLT, Nat.reduceLeDiff, Nat.reduceAdd, Nat.reduceMul, Nat.reduceSub, reduceCtorEq, Nat.reduceMod, Nat.reduceBEq, Int.reduceBEq, Int.reduceBNe, Int.reduceToNat, Tryz.f17]
 refine New_spec _ _ ?_
 simp -implicitDefEqProofs only [go_sem, ↓reduceIte, Nat.reduceEqDiff, Nat.reduceLT, Nat.reduceLeDiff, Nat.reduceAdd, Nat.reduceMul, Nat.reduceSub, reduceCtorEq, Nat.reduceMod, Nat.reduceBEq, Int.reduceBEq, Int.reduceBNe, Int.reduceToNat]
 intro id hid
 exact ⟨_, fun _ _ h => h, hK id hid⟩
theorem made_spec {S : Store} {id : Nat} {t : T} (h : Km S id t) : PRet Tryz.prog 52 [.ref id 0] S (.bool true) := by
 intro K hK
 refine pcalls_of (C := C) (fun _ => false) (fun _ => false) Tryz.func52 rfl rfl (by simp [Tryz.f52]) ?_
 simp -implicitDefEqProofs only [go_sem, ↓reduceIte, Nat.reduceEqDiff, Nat.reduceLT, Nat.reduceLeDiff, Nat.reduceAdd, Nat.reduceMul, Nat.reduceSub, reduceCtorEq, Nat.reduceMod, Nat.reduceBEq, Int.reduceBEq, Int.reduceBNe, Int.reduceToNat, Tryz.f52, h.at, bn1]
 exact ⟨S, fun _ _ h => h, hK⟩
def kOf (p : Pr) : KO := ⟨p.1, true, p.2⟩
def rangeL (frm to : ByteArray) (L : List Pr) : List Pr := L.filter fun p => !lt p.1 frm && inside to p.1
theorem rangeL_len (frm to : ByteArray) (L : List Pr) : (rangeL frm to L).length ≤ L.length := List.length_filter_le _ _
theorem scanL_range (frm to : ByteArray) (most : Int) : ∀ (L out : List Pr), (out.length : Int) + L.length ≤ most → scanL frm to most L out = out ++ rangeL frm to L
 | [], out, _ => by simp [scanL, rangeL]
 | p :: L, out, h => by
  simp only [List.length_cons] at h
  have hlt : (out.length : Int) < most := by omega
  have h0 : scanL frm to most (p :: L) out = scanL frm to most L (scanStep frm to most out p) := rfl
  rw [h0]
  unfold rangeL
  rw [List.filter_cons]
  unfold scanStep
  cases c : (!lt p.1 frm && inside to p.1)
  ·simp only [Bool.false_and, Bool.false_eq_true, if_false]
   exact scanL_range frm to most L out (by omega)
  ·simp only [Bool.true_and, hlt, decide_true, if_true]
   rw [scanL_range frm to most L (out ++ [p]) (by simp only [List.length_append, List.length_cons, List.length_nil]; omega)]
   simp [rangeL]
theorem kOf_take {L : List Pr} {k : Nat} {p : Pr} (h : L[k]? = some p) : (L.take (k + 1)).map kOf = (L.take k).map kOf ++ [⟨p.1, true, p.2⟩] := by
 rw [List.take_add_one, h]
 simp [kOf]

theorem KScan_spec {S : Store} {id : Nat} {t : T} (h : Km S id t) (hn : t.list.length ≤ 1000000) (frm to : ByteArray) : PRet Tryz.prog 19 [.ref id 0, .str frm, .str to] S (.sl .tail 3 (encOs ((rangeL frm to t.list).map kOf))) := by
 intro K hK
 obtain ⟨z1, _, _⟩ := ok_size t h.2.1
 refine pcalls_of (C := C) (fun d => d == 31 || d == 7 || d == 40 || d == 6) (fun _ => false) Tryz.func19 rfl rfl (by simp [Tryz.f19]) ?_
 simp -implicitDefEqProofs only [go_sem, ↓reduceIte, Nat.reduceEqDiff, Nat.reduceLT, Nat.reduceLeDiff, Nat.reduceAdd, Nat.reduceMul, Nat.reduceSub, reduceCtorEq, Nat.reduceMod, Nat.reduceBEq, Int.reduceBEq, Int.reduceBNe, Int.reduceToNat, Tryz.f19]
 refine made_spec h _ ?_
 simp -implicitDefEqProofs only [go_sem, ↓reduceIte, Nat.reduceEqDiff, Nat.reduceLT, Nat.reduceLeDiff, Nat.reduceAdd, Nat.reduceMul, Nat.reduceSub, reduceCtorEq, Nat.reduceMod, Nat.reduceBEq, Int.reduceBEq, Int.reduceBNe, Int.reduceToNat, h.at]
 refine vwp_draw (by decide +kernel) ?_
 simp -implicitDefEqProofs only [go_sem, ↓reduceIte, Nat.reduceEqDiff, Nat.reduceLT, Nat.reduceLeDiff, Nat.reduceAdd, Nat.reduceMul, Nat.reduceSub, reduceCtorEq, Nat.reduceMod, Nat.reduceBEq, Int.reduceBEq, Int.reduceBNe, Int.reduceToNat, h.at]
 refine q_call _ (by simp -implicitDefEqProofs only [go_sem, ↓reduceIte, Nat.reduceEqDiff]; exact len_spec (Tr.mk t) _) (by decide) rfl ?_
 try simp -implicitDefEqProofs only [go_sem, ↓reduceIte, Nat.reduceEqDiff, Nat.reduceLT, Nat.reduceLeDiff, Nat.reduceAdd, Nat.reduceMul, Nat.reduceSub, reduceCtorEq, Nat.reduceMod, Nat.reduceBEq, Int.reduceBEq, Int.reduceBNe, Int.reduceToNat, h.at]
 refine q_call _ (by simp -implicitDefEqProofs only [go_sem, ↓reduceIte, Nat.reduceEqDiff]; exact Scan_spec (Tr.mk t) h.2.2 hn frm to t.siz _) (by decide) rfl ?_
 rw [scanL_range frm to t.siz t.list [] (by simp; omega), List.nil_append]
 have hrl := rangeL_len frm to t.list
 generalize rangeL frm to t.list = R at hK hrl ⊢
 try simp -implicitDefEqProofs only [go_sem, ↓reduceIte, Nat.reduceEqDiff, Nat.reduceLT, Nat.reduceLeDiff, Nat.reduceAdd, Nat.reduceMul, Nat.reduceSub, reduceCtorEq, Nat.reduceMod, Nat.reduceBEq, Int.reduceBEq, Int.reduceBNe, Int.reduceToNat]
 refine vloop (fun e S' => S' = S ∧ ∃ k : Nat, k ≤ R.length ∧ e 7 = .sl .tail 3 (encOs ((R.take k).map kOf)) ∧ (e 25).bare = .sl .no 2 (encPs R) ∧ e 26 = .int .i64 R.length ∧ e 27 = .int .i64 k) (fun e _ => R.length - iv (e 27)) ?_ ?_
 ·exact ⟨rfl, 0, Nat.zero_le _, rfl, rfl, rfl, rfl⟩
 ·rintro J M Q' hJ hM hQ e S' ⟨rfl, k, hk, e7, e25, e26, e27⟩
  obtain ⟨fl, e25⟩ : ∃ fl, e 25 = .sl fl 2 (encPs R) := by
   cases h : e 25 with
   | sl fl sz rows => rw [h] at e25; simp only [PV.bare] at e25; injection e25 with _ e1 e2; exact ⟨fl, by rw [e1, e2]⟩
   | _ => rw [h] at e25; simp [PV.bare] at e25
  by_cases hlt : k < R.length
  ·obtain ⟨p, hp⟩ : ∃ p, R[k]? = some p := ⟨_, List.getElem?_eq_getElem hlt⟩
   have hin : (0 : Int) ≤ k ∧ (k : Int) < R.length := by omega
   have hk1 : IntKind.i64.wrap ((k : Int) + 1) = ((k + 1 : Nat) : Int) := wrap64 (by omega) (by omega)
   have hl1 : ((R.take k).map kOf).length = k := by rw [List.length_map, List.length_take]; omega
   have hap := small40 (k := k + 1) (by omega)
   simp -implicitDefEqProofs only [go_sem, ↓reduceIte, Nat.reduceEqDiff, Nat.reduceLT, Nat.reduceLeDiff, Nat.reduceAdd, Nat.reduceMul, Nat.reduceSub, reduceCtorEq, Nat.reduceMod, Nat.reduceBEq, Int.reduceBEq, Int.reduceBNe, Int.reduceToNat, hin, hlt, e7, e25, e26, e27, getD_encPs hp, hl1, hap, hk1]
   refine vnext hJ hM S' (fun _ _ h => h) ⟨rfl, k + 1, hlt, ?_, ?_, ?_, ?_⟩ ?_
   ·simp -implicitDefEqProofs only [go_sem, ↓reduceIte, Nat.reduceEqDiff]; rw [kOf_take hp, encOs_one]
   ·simp -implicitDefEqProofs only [go_sem, ↓reduceIte, Nat.reduceEqDiff, e25]
   ·simp -implicitDefEqProofs only [go_sem, ↓reduceIte, Nat.reduceEqDiff, e26]
   ·simp -implicitDefEqProofs only [go_sem, ↓reduceIte, Nat.reduceEqDiff]
   ·simp -implicitDefEqProofs only [go_sem, ↓reduceIte, Nat.reduceEqDiff, e27]
    omega
  ·have hcc : ¬ (k : Int) < R.length := by omega
   rw [List.take_of_length_le (by omega)] at e7
   simp -implicitDefEqProofs only [go_sem, ↓reduceIte, Nat.reduceEqDiff, Nat.reduceLT, Nat.reduceLeDiff, Nat.reduceAdd, Nat.reduceMul, Nat.reduceSub, reduceCtorEq, Nat.reduceMod, Nat.reduceBEq, Int.reduceBEq, Int.reduceBNe, Int.reduceToNat, hcc, e26, e27]
   refine hQ _ _ _ ?_
   simp -implicitDefEqProofs only [go_sem, ↓reduceIte, Nat.reduceEqDiff, Nat.reduceLT, Nat.reduceLeDiff, Nat.reduceAdd, Nat.reduceMul, Nat.reduceSub, reduceCtorEq, Nat.reduceMod, Nat.reduceBEq, Int.reduceBEq, Int.reduceBNe, Int.reduceToNat, e7]
   exact ⟨S', fun _ _ h => h, hK⟩

/-! ### what changed -/
structure KV where
 pos : Int
 k : ByteArray
 had : Bool
 old : ByteArray
 has : Bool
 now : ByteArray
def encV (e : KV) : List PV := [.int .i64 e.pos, .str e.k, .bool e.had, .str e.old, .bool e.has, .str e.now]
def encVs (l : List KV) : List (List PV) := l.map encV
@[go_sem] theorem len_encVs (l : List KV) : (encVs l).length = l.length := by simp [encVs]
theorem getD_encVs {l : List KV} {k : Nat} {p : KV} (h : l[k]? = some p) : (encVs l).getD k [] = [.int .i64 p.pos, .str p.k, .bool p.had, .str p.old, .bool p.has, .str p.now] := by
 simp [encVs, encV, List.getD_eq_getElem?_getD, h]
theorem encVs_one (a : List KV) (pos : Int) (k : ByteArray) (had : Bool) (old : ByteArray) (has : Bool) (now : ByteArray) : encVs a ++ [[.int .i64 pos, .str k, .bool had, .str old, .bool has, .str now]] = encVs (a ++ [⟨pos, k, had, old, has, now⟩]) := by simp [encVs, encV]
def evDo (L : List Pr) (e : KV) : List Pr := if e.has then putL e.k e.now L else dropL e.k L
theorem evDo_sorted {L : List Pr} (h : Sorted L) (e : KV) : Sorted (evDo L e) := by
 unfold evDo
 split
 ·exact sorted_put h _ _
 ·exact sorted_drop h _
theorem evDo_len {L : List Pr} (h : Sorted L) (e : KV) : (evDo L e).length ≤ L.length + 1 := by
 unfold evDo
 split
 ·exact put_len h _ _
 ·exact Nat.le_succ_of_le (drop_len L _)
def takeF (L : List Pr) (E : List KV) : List Pr := E.foldl evDo L
theorem takeF_take {L : List Pr} {E : List KV} {k : Nat} {e : KV} (h : E[k]? = some e) : takeF L (E.take (k + 1)) = evDo (takeF L (E.take k)) e := by
 rw [List.take_add_one, h]
 simp [takeF]
theorem takeF_ok : ∀ (E : List KV) (L : List Pr), Sorted L → Sorted (takeF L E) ∧ (takeF L E).length ≤ L.length + E.length
 | [], L, h => ⟨h, Nat.le_refl _⟩
 | e :: E, L, h => by
  obtain ⟨h1, h2⟩ := takeF_ok E (evDo L e) (evDo_sorted h e)
  have := evDo_len h e
  refine ⟨h1, ?_⟩
  show (takeF (evDo L e) E).length ≤ _
  simp only [List.length_cons]
  omega

set_option maxHeartbeats 1000000 in
theorem KTake_calls {S : Store} {id : Nat} {t : T} (h : Km S id t) (E : List KV) (hn : t.list.length + E.length ≤ 800000) (K : PV → Store → Prop)
  (hK : ∀ q, Ok q → q.list = takeF t.list E → K (.tup []) (S.set id (some [.ip [enc q] 0]))) : PCalls Tryz.prog 27 [.ref id 0, .sl .no 6 (encVs E)] S K := by
 refine pcalls_of (C := C) (fun _ => false) (fun _ => false) Tryz.func27 rfl rfl (by simp [Tryz.f27]) ?_
 simp -implicitDefEqProofs only [go_sem, ↓reduceIte, Nat.reduceEqDiff, Nat.reduceLT, Nat.reduceLeDiff, Nat.reduceAdd, Nat.reduceMul, Nat.reduceSub, reduceCtorEq, Nat.reduceMod, Nat.reduceBEq, Int.reduceBEq, Int.reduceBNe, Int.reduceToNat, Tryz.f27]
 refine made_spec h _ ?_
 simp -implicitDefEqProofs only [go_sem, ↓reduceIte, Nat.reduceEqDiff, Nat.reduceLT, Nat.reduceLeDiff, Nat.reduceAdd, Nat.reduceMul, Nat.reduceSub, reduceCtorEq, Nat.reduceMod, Nat.reduceBEq, Int.reduceBEq, Int.reduceBNe, Int.reduceToNat]
 refine vloop (fun e S' => ∃ (k : Nat) (q : T), S' = S.set id (some [.ip [enc q] 0]) ∧ k ≤ E.length ∧ Ok q ∧ q.list = takeF t.list (E.take k) ∧ e 0 = .ref id 0 ∧ e 9 = .sl .no 6 (encVs E) ∧ e 10 = .int .i64 E.length ∧ e 11 = .int .i64 k) (fun e _ => E.length - iv (e 11)) ?_ ?_
 ·exact ⟨0, t, (set_eta h.at).symm, Nat.zero_le _, h.2.1, rfl, rfl, rfl, rfl, rfl⟩
 ·rintro J M Q' hJ hM hQ e S' ⟨k, q, rfl, hk, oq, hq, e0, e9, e10, e11⟩
  obtain ⟨s1, s2⟩ := takeF_ok (E.take k) t.list h.2.2
  rw [List.length_take] at s2
  by_cases hlt : k < E.length
  ·obtain ⟨x, hx⟩ : ∃ x, E[k]? = some x := ⟨_, List.getElem?_eq_getElem hlt⟩
   have hin : (0 : Int) ≤ k ∧ (k : Int) < E.length := by omega
   have hk1 : IntKind.i64.wrap ((k : Int) + 1) = ((k + 1 : Nat) : Int) := wrap64 (by omega) (by omega)
   have hst := takeF_take (L := t.list) hx
   unfold evDo at hst
   have hat := set_at S id (some [.ip [enc q] 0])
   cases c : x.has
   ·rw [c] at hst
    simp only [Bool.false_eq_true, if_false] at hst
    obtain ⟨u, u1, u2, u3⟩ := Drop_spec (Tr.mk q) oq (by rw [hq]; exact s1) (by rw [hq]; omega) x.k
    simp -implicitDefEqProofs only [go_sem, ↓reduceIte, Nat.reduceEqDiff, Nat.reduceLT, Nat.reduceLeDiff, Nat.reduceAdd, Nat.reduceMul, Nat.reduceSub, reduceCtorEq, Nat.reduceMod, Nat.reduceBEq, Int.reduceBEq, Int.reduceBNe, Int.reduceToNat, hin, hlt, e9, e10, e11, getD_encVs hx, c]
    refine vwp_tail 8 (by decide +kernel) (by decide +kernel) ?_
    dsimp only [List.take, List.drop]
    simp -implicitDefEqProofs only [go_sem, ↓reduceIte, Nat.reduceEqDiff, Nat.reduceLT, Nat.reduceLeDiff, Nat.reduceAdd, Nat.reduceMul, Nat.reduceSub, reduceCtorEq, Nat.reduceMod, Nat.reduceBEq, Int.reduceBEq, Int.reduceBNe, Int.reduceToNat, e0, hat]
    refine q_call _ (by simp -implicitDefEqProofs only [go_sem, ↓reduceIte, Nat.reduceEqDiff]; exact u3 _) (by decide) rfl ?_
    simp -implicitDefEqProofs only [go_sem, ↓reduceIte, Nat.reduceEqDiff, Nat.reduceLT, Nat.reduceLeDiff, Nat.reduceAdd, Nat.reduceMul, Nat.reduceSub, reduceCtorEq, Nat.reduceMod, Nat.reduceBEq, Int.reduceBEq, Int.reduceBNe, Int.reduceToNat, e0, e11, hat, psplice, set_set, hk1]
    refine vnext hJ hM _ (fun _ _ h => h) ⟨k + 1, u, rfl, hlt, u1, by rw [u2, hq, hst], ?_, ?_, ?_, ?_⟩ ?_
    ·simp -implicitDefEqProofs only [go_sem, ↓reduceIte, Nat.reduceEqDiff, e0]
    ·simp -implicitDefEqProofs only [go_sem, ↓reduceIte, Nat.reduceEqDiff, e9]
    ·simp -implicitDefEqProofs only [go_sem, ↓reduceIte, Nat.reduceEqDiff, e10]
    ·simp -implicitDefEqProofs only [go_sem, ↓reduceIte, Nat.reduceEqDiff]
    ·simp -implicitDefEqProofs only [go_sem, ↓reduceIte, Nat.reduceEqDiff, e11]
     omega
   ·rw [c] at hst
    simp only [if_true] at hst
    obtain ⟨u, u1, u2, u3⟩ := Put_spec (Tr.mk q) oq (by rw [hq]; exact s1) (by rw [hq]; omega) x.k x.now
    simp -implicitDefEqProofs only [go_sem, ↓reduceIte, Nat.reduceEqDiff, Nat.reduceLT, Nat.reduceLeDiff, Nat.reduceAdd, Nat.reduceMul, Nat.reduceSub, reduceCtorEq, Nat.reduceMod, Nat.reduceBEq, Int.reduceBEq, Int.reduceBNe, Int.reduceToNat, hin, hlt, e9, e10, e11, getD_encVs hx, c]
    refine vwp_tail 10 (by decide +kernel) (by decide +kernel) ?_
    dsimp only [List.take, List.drop]
    simp -implicitDefEqProofs only [go_sem, ↓reduceIte, Nat.reduceEqDiff, Nat.reduceLT, Nat.reduceLeDiff, Nat.reduceAdd, Nat.reduceMul, Nat.reduceSub, reduceCtorEq, Nat.reduceMod, Nat.reduceBEq, Int.reduceBEq, Int.reduceBNe, Int.reduceToNat, e0, hat]
    refine q_call _ (by simp -implicitDefEqProofs only [go_sem, ↓reduceIte, Nat.reduceEqDiff]; exact u3 _) (by decide) rfl ?_
    simp -implicitDefEqProofs only [go_sem, ↓reduceIte, Nat.reduceEqDiff, Nat.reduceLT, Nat.reduceLeDiff, Nat.reduceAdd, Nat.reduceMul, Nat.reduceSub, reduceCtorEq, Nat.reduceMod, Nat.reduceBEq, Int.reduceBEq, Int.reduceBNe, Int.reduceToNat, e0, e11, hat, psplice, set_set, hk1]
    refine vnext hJ hM _ (fun _ _ h => h) ⟨k + 1, u, rfl, hlt, u1, by rw [u2, hq, hst], ?_, ?_, ?_, ?_⟩ ?_
    ·simp -implicitDefEqProofs only [go_sem, ↓reduceIte, Nat.reduceEqDiff, e0]
    ·simp -implicitDefEqProofs only [go_sem, ↓reduceIte, Nat.reduceEqDiff, e9]
    ·simp -implicitDefEqProofs only [go_sem, ↓reduceIte, Nat.reduceEqDiff, e10]
    ·simp -implicitDefEqProofs only [go_sem, ↓reduceIte, Nat.reduceEqDiff]
    ·simp -implicitDefEqProofs only [go_sem, ↓reduceIte, Nat.reduceEqDiff, e11]
     omega
  ·have hcc : ¬ (k : Int) < E.length := by omega
   rw [List.take_of_length_le (by omega)] at hq
   simp -implicitDefEqProofs only [go_sem, ↓reduceIte, Nat.reduceEqDiff, Nat.reduceLT, Nat.reduceLeDiff, Nat.reduceAdd, Nat.reduceMul, Nat.reduceSub, reduceCtorEq, Nat.reduceMod, Nat.reduceBEq, Int.reduceBEq, Int.reduceBNe, Int.reduceToNat, hcc, e10, e11]
   refine hQ _ _ _ ?_
   simp -implicitDefEqProofs only [go_sem, ↓reduceIte, Nat.reduceEqDiff, Nat.reduceLT, Nat.reduceLeDiff, Nat.reduceAdd, Nat.reduceMul, Nat.reduceSub, reduceCtorEq, Nat.reduceMod, Nat.reduceBEq, Int.reduceBEq, Int.reduceBNe, Int.reduceToNat]
   exact ⟨_, fun _ _ h => h, hK q oq hq⟩
end Go.Proofs.YtdioedabjaaboaaGreat.V
