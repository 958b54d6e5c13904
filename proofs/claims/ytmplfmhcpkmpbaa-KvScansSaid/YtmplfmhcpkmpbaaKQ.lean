/- Maps: a scan of a stretch is that of its two parts. -/
import Derived.Test.YtmplfmhcpkmpbaaKO
import Derived.Test.YtmplfmhcpkmpbaaKG2
set_option linter.unusedVariables false
set_option linter.unusedSimpArgs false
namespace Go.Proofs.Ytmplfmhcpkmpbaa.V
open Go Go.VL

def encLL (L : List (List KO)) : List (List PV) := L.map fun l => [.sl .no 3 (encOs l)]
@[go_sem] theorem len_encLL (L : List (List KO)) : (encLL L).length = L.length := by simp [encLL]
theorem getD_encLL {L : List (List KO)} {k : Nat} {l : List KO} (h : L[k]? = some l) : (encLL L).getD k [] = [.sl .no 3 (encOs l)] := by
  simp [encLL, List.getD_eq_getElem?_getD, h]
def lens : List (List KO) → Nat
  | [] => 0
  | l :: L => l.length + lens L
theorem lens_app : ∀ (A B : List (List KO)), lens (A ++ B) = lens A + lens B
  | [], B => by simp [lens]
  | a :: A, B => by simp only [List.cons_append, lens, lens_app A B]; omega
theorem lens_take (L : List (List KO)) (k : Nat) {l : List KO} (h : L[k]? = some l) : lens (L.take (k + 1)) = lens (L.take k) + l.length := by
  rw [List.take_add_one, h, lens_app]
  simp [lens]
theorem lens_le (L : List (List KO)) (k : Nat) : lens (L.take k) ≤ lens L := by
  conv => rhs; rw [← List.take_append_drop k L, lens_app]
  omega
theorem lens_flat : ∀ (L : List (List KO)), L.flatten.length = lens L
  | [] => rfl
  | l :: L => by simp only [List.flatten_cons, List.length_append, lens, lens_flat L]
theorem flat_take (L : List (List KO)) (k : Nat) {l : List KO} (h : L[k]? = some l) : (L.take (k + 1)).flatten = (L.take k).flatten ++ l := by
  rw [List.take_add_one, h]
  simp

set_option maxHeartbeats 1000000 in
theorem concat_spec (L : List (List KO)) (hL : L.length ≤ 1000) (hs : lens L ≤ 1000000) (S : Store) : PRet Try.prog 31 [.sl .no 1 (encLL L)] S (.sl .tail 3 (encOs L.flatten)) := by
  intro K hK
  refine pcalls_of (C := C) (fun d => d == 24 || d == 6 || d == 31 || d == 35 || d == 2) (fun _ => false) Try.func31 rfl rfl (by simp [Try.f31]) ?_
  simp -implicitDefEqProofs only [go_sem, ↓reduceIte, Nat.reduceEqDiff, Nat.reduceLT, Nat.reduceLeDiff, Nat.reduceAdd, Nat.reduceMul, Nat.reduceSub, reduceCtorEq, Nat.reduceMod, Nat.reduceBEq, Int.reduceBEq, Int.reduceBNe, Int.reduceToNat, Try.f31]
  refine vloop (fun e S' => S' = S ∧ ∃ k : Nat, k ≤ L.length ∧ e 0 = .sl .no 1 (encLL L) ∧ e 9 = .sl .no 1 (encLL L) ∧ e 10 = .int .i64 L.length ∧ e 11 = .int .i64 k ∧ e 3 = .int .i64 (lens (L.take k) : Nat)) (fun e _ => L.length - iv (e 11)) ?_ ?_
  · exact ⟨rfl, 0, Nat.zero_le _, rfl, rfl, rfl, rfl, rfl⟩
  · rintro J M Q' hJ hM hQ e S' ⟨rfl, k, hk, h0, h9, h10, h11, h3⟩
    have hle := lens_le L k
    by_cases hlt : k < L.length
    · obtain ⟨x, hx⟩ : ∃ x, L[k]? = some x := ⟨_, List.getElem?_eq_getElem hlt⟩
      have hle2 := lens_le L (k + 1)
      rw [lens_take L k hx] at hle2
      have hin : (0 : Int) ≤ k ∧ (k : Int) < L.length := by omega
      have hw : IntKind.i64.wrap ((lens (L.take k) : Int) + x.length) = ((lens (L.take (k + 1)) : Nat) : Int) := by
        rw [lens_take L k hx, wrap64 (by omega) (by omega)]; omega
      have hk1 : IntKind.i64.wrap ((k : Int) + 1) = ((k + 1 : Nat) : Int) := wrap64 (by omega) (by omega)
      have hng : ¬ ((lens (L.take (k + 1)) : Nat) : Int) < 0 := by omega
      simp -implicitDefEqProofs only [go_sem, ↓reduceIte, Nat.reduceEqDiff, Nat.reduceLT, Nat.reduceLeDiff, Nat.reduceAdd, Nat.reduceMul, Nat.reduceSub, reduceCtorEq, Nat.reduceMod, Nat.reduceBEq, Int.reduceBEq, Int.reduceBNe, Int.reduceToNat, hin, hlt, h9, h10, h11, h3, getD_encLL hx, hw, hng, hk1]
      refine vnext hJ hM S' (fun _ _ h => h) ⟨rfl, k + 1, hlt, ?_, ?_, ?_, ?_, ?_⟩ ?_
      · simp -implicitDefEqProofs only [go_sem, ↓reduceIte, Nat.reduceEqDiff, Nat.reduceLT, Nat.reduceLeDiff, Nat.reduceAdd, Nat.reduceMul, Nat.reduceSub, reduceCtorEq, Nat.reduceMod, Nat.reduceBEq, Int.reduceBEq, Int.reduceBNe, Int.reduceToNat, h0]
      · simp -implicitDefEqProofs only [go_sem, ↓reduceIte, Nat.reduceEqDiff, Nat.reduceLT, Nat.reduceLeDiff, Nat.reduceAdd, Nat.reduceMul, Nat.reduceSub, reduceCtorEq, Nat.reduceMod, Nat.reduceBEq, Int.reduceBEq, Int.reduceBNe, Int.reduceToNat, h9]
      · simp -implicitDefEqProofs only [go_sem, ↓reduceIte, Nat.reduceEqDiff, Nat.reduceLT, Nat.reduceLeDiff, Nat.reduceAdd, Nat.reduceMul, Nat.reduceSub, reduceCtorEq, Nat.reduceMod, Nat.reduceBEq, Int.reduceBEq, Int.reduceBNe, Int.reduceToNat, h10]
      · simp -implicitDefEqProofs only [go_sem, ↓reduceIte, Nat.reduceEqDiff, Nat.reduceLT, Nat.reduceLeDiff, Nat.reduceAdd, Nat.reduceMul, Nat.reduceSub, reduceCtorEq, Nat.reduceMod, Nat.reduceBEq, Int.reduceBEq, Int.reduceBNe, Int.reduceToNat]
      · simp -implicitDefEqProofs only [go_sem, ↓reduceIte, Nat.reduceEqDiff, Nat.reduceLT, Nat.reduceLeDiff, Nat.reduceAdd, Nat.reduceMul, Nat.reduceSub, reduceCtorEq, Nat.reduceMod, Nat.reduceBEq, Int.reduceBEq, Int.reduceBNe, Int.reduceToNat]
      · simp -implicitDefEqProofs only [go_sem, ↓reduceIte, Nat.reduceEqDiff, Nat.reduceLT, Nat.reduceLeDiff, Nat.reduceAdd, Nat.reduceMul, Nat.reduceSub, reduceCtorEq, Nat.reduceMod, Nat.reduceBEq, Int.reduceBEq, Int.reduceBNe, Int.reduceToNat, h11]
        omega
    · have hc : ¬ (k : Int) < L.length := by omega
      simp -implicitDefEqProofs only [go_sem, ↓reduceIte, Nat.reduceEqDiff, Nat.reduceLT, Nat.reduceLeDiff, Nat.reduceAdd, Nat.reduceMul, Nat.reduceSub, reduceCtorEq, Nat.reduceMod, Nat.reduceBEq, Int.reduceBEq, Int.reduceBNe, Int.reduceToNat, hc, h10, h11]
      refine hQ _ _ _ ?_
      simp -implicitDefEqProofs only [go_sem, ↓reduceIte, Nat.reduceEqDiff, Nat.reduceLT, Nat.reduceLeDiff, Nat.reduceAdd, Nat.reduceMul, Nat.reduceSub, reduceCtorEq, Nat.reduceMod, Nat.reduceBEq, Int.reduceBEq, Int.reduceBNe, Int.reduceToNat, h3]
      rw [List.take_of_length_le (by omega)]
      refine ⟨by decide, grow_spec (lens L) (by omega) _ _ ?_⟩
      simp -implicitDefEqProofs only [go_sem, ↓reduceIte, Nat.reduceEqDiff, Nat.reduceLT, Nat.reduceLeDiff, Nat.reduceAdd, Nat.reduceMul, Nat.reduceSub, reduceCtorEq, Nat.reduceMod, Nat.reduceBEq, Int.reduceBEq, Int.reduceBNe, Int.reduceToNat, h0]
      refine vloop (fun e S2 => S2 = S' ∧ ∃ k : Nat, k ≤ L.length ∧ e 25 = .sl .no 1 (encLL L) ∧ e 26 = .int .i64 L.length ∧ e 27 = .int .i64 k ∧ e 6 = .sl .tail 3 (encOs (L.take k).flatten)) (fun e _ => L.length - iv (e 27)) ?_ ?_
      · exact ⟨rfl, 0, Nat.zero_le _, rfl, rfl, rfl, rfl⟩
      · rintro J2 M2 Q2 hJ2 hM2 hQ2 e' S2 ⟨rfl, m, hm, h25, h26, h27, h6⟩
        have hle := lens_le L m
        by_cases hlt : m < L.length
        · obtain ⟨x, hx⟩ : ∃ x, L[m]? = some x := ⟨_, List.getElem?_eq_getElem hlt⟩
          have hle2 := lens_le L (m + 1)
          rw [lens_take L m hx] at hle2
          have hin : (0 : Int) ≤ m ∧ (m : Int) < L.length := by omega
          have hk1 : IntKind.i64.wrap ((m : Int) + 1) = ((m + 1 : Nat) : Int) := wrap64 (by omega) (by omega)
          have hap := small40 (k := (L.take m).flatten.length + x.length) (by rw [lens_flat]; omega)
          simp -implicitDefEqProofs only [go_sem, ↓reduceIte, Nat.reduceEqDiff, Nat.reduceLT, Nat.reduceLeDiff, Nat.reduceAdd, Nat.reduceMul, Nat.reduceSub, reduceCtorEq, Nat.reduceMod, Nat.reduceBEq, Int.reduceBEq, Int.reduceBNe, Int.reduceToNat, hin, hlt, h25, h26, h27, h6, getD_encLL hx, hap, hk1]
          refine vnext hJ2 hM2 S2 (fun _ _ h => h) ⟨rfl, m + 1, hlt, ?_, ?_, ?_, ?_⟩ ?_
          · simp -implicitDefEqProofs only [go_sem, ↓reduceIte, Nat.reduceEqDiff, Nat.reduceLT, Nat.reduceLeDiff, Nat.reduceAdd, Nat.reduceMul, Nat.reduceSub, reduceCtorEq, Nat.reduceMod, Nat.reduceBEq, Int.reduceBEq, Int.reduceBNe, Int.reduceToNat, h25]
          · simp -implicitDefEqProofs only [go_sem, ↓reduceIte, Nat.reduceEqDiff, Nat.reduceLT, Nat.reduceLeDiff, Nat.reduceAdd, Nat.reduceMul, Nat.reduceSub, reduceCtorEq, Nat.reduceMod, Nat.reduceBEq, Int.reduceBEq, Int.reduceBNe, Int.reduceToNat, h26]
          · simp -implicitDefEqProofs only [go_sem, ↓reduceIte, Nat.reduceEqDiff, Nat.reduceLT, Nat.reduceLeDiff, Nat.reduceAdd, Nat.reduceMul, Nat.reduceSub, reduceCtorEq, Nat.reduceMod, Nat.reduceBEq, Int.reduceBEq, Int.reduceBNe, Int.reduceToNat]
          · simp -implicitDefEqProofs only [go_sem, ↓reduceIte, Nat.reduceEqDiff, Nat.reduceLT, Nat.reduceLeDiff, Nat.reduceAdd, Nat.reduceMul, Nat.reduceSub, reduceCtorEq, Nat.reduceMod, Nat.reduceBEq, Int.reduceBEq, Int.reduceBNe, Int.reduceToNat]
            rw [flat_take L m hx, encOs_app]
          · simp -implicitDefEqProofs only [go_sem, ↓reduceIte, Nat.reduceEqDiff, Nat.reduceLT, Nat.reduceLeDiff, Nat.reduceAdd, Nat.reduceMul, Nat.reduceSub, reduceCtorEq, Nat.reduceMod, Nat.reduceBEq, Int.reduceBEq, Int.reduceBNe, Int.reduceToNat, h27]
            omega
        · have hc : ¬ (m : Int) < L.length := by omega
          rw [List.take_of_length_le (by omega)] at h6
          simp -implicitDefEqProofs only [go_sem, ↓reduceIte, Nat.reduceEqDiff, Nat.reduceLT, Nat.reduceLeDiff, Nat.reduceAdd, Nat.reduceMul, Nat.reduceSub, reduceCtorEq, Nat.reduceMod, Nat.reduceBEq, Int.reduceBEq, Int.reduceBNe, Int.reduceToNat, hc, h26, h27]
          refine hQ2 _ _ _ ?_
          simp -implicitDefEqProofs only [go_sem, ↓reduceIte, Nat.reduceEqDiff, Nat.reduceLT, Nat.reduceLeDiff, Nat.reduceAdd, Nat.reduceMul, Nat.reduceSub, reduceCtorEq, Nat.reduceMod, Nat.reduceBEq, Int.reduceBEq, Int.reduceBNe, Int.reduceToNat, h6]
          exact ⟨S2, fun _ _ h => h, hK⟩

/-! ### stretches -/
theorem filter_split {α : Type} {R : α → α → Prop} (a b c : α → Bool) (hc : ∀ x, c x = (a x || b x)) (hd : ∀ x, ¬ (a x = true ∧ b x = true)) (hR : ∀ x y, R x y → b x = true → a y = false) :
    ∀ L : List α, L.Pairwise R → L.filter c = L.filter a ++ L.filter b
  | [], _ => rfl
  | x :: L, h => by
    obtain ⟨h1, h2⟩ := List.pairwise_cons.1 h
    have ih := filter_split a b c hc hd hR L h2
    rw [List.filter_cons, List.filter_cons, List.filter_cons, hc x]
    cases e1 : a x
    · cases e2 : b x
      · simpa using ih
      · have hn : L.filter a = [] := List.filter_eq_nil_iff.2 fun y hy => by rw [hR x y (h1 y hy) e2]; decide
        rw [hn] at ih ⊢
        simpa using ih
    · cases e2 : b x
      · simpa using ih
      · exact absurd ⟨e1, e2⟩ (hd x)
theorem range_split {L : List Pr} (hs : Sorted L) {frm mid to : ByteArray} (h1 : same mid ⟨#[]⟩ = false) (h2 : lt mid frm = false) (h3 : same to ⟨#[]⟩ = true ∨ lt to mid = false) :
    rangeL frm to L = rangeL frm mid L ++ rangeL mid to L := by
  unfold rangeL
  refine filter_split (R := fun a b : Pr => lt a.1 b.1 = true) _ _ _ (fun x => ?_) (fun x hx => ?_) (fun x y hxy hx => ?_) L hs
  · unfold inside
    rw [h1, Bool.false_or]
    cases e : lt x.1 mid
    · have : lt x.1 frm = false := by
        cases e2 : lt x.1 frm with
        | false => rfl
        | true =>
          exfalso
          cases e3 : lt mid x.1 with
          | true => rw [lt_trans e3 e2] at h2; cases h2
          | false =>
            rw [lt_tri e e3] at e2
            rw [e2] at h2; cases h2
      rw [this]
      simp
    · have : (same to ⟨#[]⟩ || lt x.1 to) = true := by
        rcases h3 with h3 | h3
        · rw [h3]; rfl
        · cases e2 : lt mid to with
          | true => rw [lt_trans e e2]; simp
          | false => rw [← lt_tri h3 e2] at e; rw [e]; simp
      rw [this]
      simp
  · simp only [inside, h1, Bool.false_or, Bool.and_eq_true, Bool.not_eq_true'] at hx
    rw [hx.1.2] at hx
    cases hx.2.1
  · simp only [Bool.and_eq_true, Bool.not_eq_true'] at hx
    cases e : lt y.1 mid with
    | false => simp [inside, h1, e]
    | true => rw [lt_trans hxy e] at hx; cases hx.1
theorem range_none {L : List Pr} {frm : ByteArray} (h : same frm ⟨#[]⟩ = false) : rangeL frm frm L = [] := by
  unfold rangeL
  refine List.filter_eq_nil_iff.2 fun x _ => ?_
  unfold inside
  rw [h]
  cases lt x.1 frm <;> simp
theorem range_mem {L : List Pr} {frm to : ByteArray} {p : Pr} (h : p ∈ rangeL frm to L) : p ∈ L ∧ lt p.1 frm = false ∧ (same to ⟨#[]⟩ = true ∨ lt p.1 to = true) := by
  unfold rangeL inside at h
  obtain ⟨h1, h2⟩ := List.mem_filter.1 h
  simp only [Bool.and_eq_true, Bool.not_eq_true', Bool.or_eq_true] at h2
  exact ⟨h1, h2.1, h2.2⟩

set_option maxHeartbeats 4000000 in
theorem scans_law (l : List KD) (frm mid to : ByteArray) (hf : frm.size ≤ reachBytes) (hm : mid.size ≤ reachBytes) (S : Store) : PRet Try.prog 10 [.sl .no 12 (encDs l), .str frm, .str mid, .str to] S (.bool true) := by
  intro K hK
  refine pcalls_of (C := C) (fun _ => false) (fun _ => false) Try.func10 rfl rfl (by simp [Try.f10]) ?_
  have hw : IntKind.i64.wrap ((frm.size : Int) + (mid.size : Int)) = ((frm.size + mid.size : Nat) : Int) := by
    unfold reachBytes at hf hm
    rw [wrap64 (by omega) (by omega)]
    omega
  simp -implicitDefEqProofs only [go_sem, ↓reduceIte, Nat.reduceEqDiff, Nat.reduceLT, Nat.reduceLeDiff, Nat.reduceAdd, Nat.reduceMul, Nat.reduceSub, reduceCtorEq, Nat.reduceMod, Nat.reduceBEq, Int.reduceBEq, Int.reduceBNe, Int.reduceToNat, Try.f10]
  refine short_spec l _ _ ?_
  cases hs : shortQ l
  · simp -implicitDefEqProofs only [go_sem, ↓reduceIte, Nat.reduceEqDiff, Nat.reduceLT, Nat.reduceLeDiff, Nat.reduceAdd, Nat.reduceMul, Nat.reduceSub, reduceCtorEq, Nat.reduceMod, Nat.reduceBEq, Int.reduceBEq, Int.reduceBNe, Int.reduceToNat]
    refine awake_spec _ _ ?_
    simp -implicitDefEqProofs only [go_sem, ↓reduceIte, Nat.reduceEqDiff, Nat.reduceLT, Nat.reduceLeDiff, Nat.reduceAdd, Nat.reduceMul, Nat.reduceSub, reduceCtorEq, Nat.reduceMod, Nat.reduceBEq, Int.reduceBEq, Int.reduceBNe, Int.reduceToNat]
    exact ⟨S, fun _ _ h => h, hK⟩
  obtain ⟨hl, _⟩ := short_fit hs
  by_cases b1 : (32768 : Int) < ((frm.size + mid.size : Nat) : Int)
  · simp -implicitDefEqProofs only [go_sem, ↓reduceIte, Nat.reduceEqDiff, Nat.reduceLT, Nat.reduceLeDiff, Nat.reduceAdd, Nat.reduceMul, Nat.reduceSub, reduceCtorEq, Nat.reduceMod, Nat.reduceBEq, Int.reduceBEq, Int.reduceBNe, Int.reduceToNat, hw, b1]
    refine awake_spec _ _ ?_
    simp -implicitDefEqProofs only [go_sem, ↓reduceIte, Nat.reduceEqDiff, Nat.reduceLT, Nat.reduceLeDiff, Nat.reduceAdd, Nat.reduceMul, Nat.reduceSub, reduceCtorEq, Nat.reduceMod, Nat.reduceBEq, Int.reduceBEq, Int.reduceBNe, Int.reduceToNat]
    exact ⟨S, fun _ _ h => h, hK⟩
  by_cases b2 : (32768 : Int) < (to.size : Int)
  · simp -implicitDefEqProofs only [go_sem, ↓reduceIte, Nat.reduceEqDiff, Nat.reduceLT, Nat.reduceLeDiff, Nat.reduceAdd, Nat.reduceMul, Nat.reduceSub, reduceCtorEq, Nat.reduceMod, Nat.reduceBEq, Int.reduceBEq, Int.reduceBNe, Int.reduceToNat, hw, b1, b2]
    refine awake_spec _ _ ?_
    simp -implicitDefEqProofs only [go_sem, ↓reduceIte, Nat.reduceEqDiff, Nat.reduceLT, Nat.reduceLeDiff, Nat.reduceAdd, Nat.reduceMul, Nat.reduceSub, reduceCtorEq, Nat.reduceMod, Nat.reduceBEq, Int.reduceBEq, Int.reduceBNe, Int.reduceToNat]
    exact ⟨S, fun _ _ h => h, hK⟩
  simp -implicitDefEqProofs only [go_sem, ↓reduceIte, Nat.reduceEqDiff, Nat.reduceLT, Nat.reduceLeDiff, Nat.reduceAdd, Nat.reduceMul, Nat.reduceSub, reduceCtorEq, Nat.reduceMod, Nat.reduceBEq, Int.reduceBEq, Int.reduceBNe, Int.reduceToNat, hw, b1, b2]
  refine made_calls l (by omega) _ _ fun id t hid km ht => ?_
  obtain ⟨m1, m2, m3, m4, m5⟩ := made_good l
  generalize (madeF l).2 = E at m3 m4 m5 ⊢
  generalize (madeF l).1 = L at m1 m2 m5 ht
  cases c1 : same mid ⟨#[]⟩
  case true =>
    simp -implicitDefEqProofs only [go_sem, ↓reduceIte, Nat.reduceEqDiff, Nat.reduceLT, Nat.reduceLeDiff, Nat.reduceAdd, Nat.reduceMul, Nat.reduceSub, reduceCtorEq, Nat.reduceMod, Nat.reduceBEq, Int.reduceBEq, Int.reduceBNe, Int.reduceToNat, c1]
    refine awake_spec _ _ ?_
    simp -implicitDefEqProofs only [go_sem, ↓reduceIte, Nat.reduceEqDiff, Nat.reduceLT, Nat.reduceLeDiff, Nat.reduceAdd, Nat.reduceMul, Nat.reduceSub, reduceCtorEq, Nat.reduceMod, Nat.reduceBEq, Int.reduceBEq, Int.reduceBNe, Int.reduceToNat]
    exact ⟨S, set_drop hid fun _ _ h => h, hK⟩
  cases c2 : lt mid frm
  case true =>
    simp -implicitDefEqProofs only [go_sem, ↓reduceIte, Nat.reduceEqDiff, Nat.reduceLT, Nat.reduceLeDiff, Nat.reduceAdd, Nat.reduceMul, Nat.reduceSub, reduceCtorEq, Nat.reduceMod, Nat.reduceBEq, Int.reduceBEq, Int.reduceBNe, Int.reduceToNat, c1, c2]
    refine awake_spec _ _ ?_
    simp -implicitDefEqProofs only [go_sem, ↓reduceIte, Nat.reduceEqDiff, Nat.reduceLT, Nat.reduceLeDiff, Nat.reduceAdd, Nat.reduceMul, Nat.reduceSub, reduceCtorEq, Nat.reduceMod, Nat.reduceBEq, Int.reduceBEq, Int.reduceBNe, Int.reduceToNat]
    exact ⟨S, set_drop hid fun _ _ h => h, hK⟩
  have z00 : ((0 : Int) == 0) = true := rfl
  cases c3 : same to ⟨#[]⟩
  case true =>
    simp -implicitDefEqProofs only [go_sem, ↓reduceIte, Nat.reduceEqDiff, Nat.reduceLT, Nat.reduceLeDiff, Nat.reduceAdd, Nat.reduceMul, Nat.reduceSub, reduceCtorEq, Nat.reduceMod, Nat.reduceBEq, Int.reduceBEq, Int.reduceBNe, Int.reduceToNat, c1, c2, c3]
    have h3 : same to ⟨#[]⟩ = true ∨ lt to mid = false := .inl c3
    refine KScan_spec km (by rw [ht]; omega) frm to _ ?_
    rw [ht]
    obtain ⟨A, hA⟩ : ∃ A, A = (rangeL frm to L).map kOf := ⟨_, rfl⟩
    have hAl : A.length ≤ 600 := by have := rangeL_len frm to L; rw [hA, List.length_map]; omega
    rw [← hA]
    simp -implicitDefEqProofs only [go_sem, ↓reduceIte, Nat.reduceEqDiff, Nat.reduceLT, Nat.reduceLeDiff, Nat.reduceAdd, Nat.reduceMul, Nat.reduceSub, reduceCtorEq, Nat.reduceMod, Nat.reduceBEq, Int.reduceBEq, Int.reduceBNe, Int.reduceToNat]
    refine vloop (fun e S' => S' = S.set id (some [.ip [enc t] 0]) ∧ ∃ k : Nat, k ≤ A.length ∧ e 1 = .str frm ∧ e 2 = .str mid ∧ e 3 = .str to ∧ e 9 = .ref id 0 ∧ e 11 = .sl .no 3 (encOs A) ∧ e 59 = .sl .no 3 (encOs A) ∧ e 60 = .int .i64 A.length ∧ e 61 = .int .i64 k) (fun e _ => A.length - iv (e 61)) ?_ ?_
    · exact ⟨rfl, 0, Nat.zero_le _, rfl, rfl, rfl, rfl, rfl, rfl, rfl, rfl⟩
    · rintro J M Q' hJ hM hQ e S' ⟨rfl, k, hk, e1, e2, e3, e9, e11, e59, e60, e61⟩
      by_cases hlt : k < A.length
      · obtain ⟨o, ho⟩ : ∃ o, A[k]? = some o := ⟨_, List.getElem?_eq_getElem hlt⟩
        have hin : (0 : Int) ≤ k ∧ (k : Int) < A.length := by omega
        have hk1 : IntKind.i64.wrap ((k : Int) + 1) = ((k + 1 : Nat) : Int) := wrap64 (by omega) (by omega)
        obtain ⟨p, hp, rfl⟩ : ∃ p ∈ rangeL frm to L, kOf p = o := List.mem_map.1 (by rw [← hA]; exact List.mem_of_getElem? ho)
        obtain ⟨p1, p2, p3⟩ := range_mem hp
        have p4 := look_isSome_mem (k := p.1) (v := p.2) m1 p1
        have q1 : (kOf p).k = p.1 := rfl
        have q2 : (kOf p).has = true := rfl
        have q3 : (kOf p).v = p.2 := rfl
        simp -implicitDefEqProofs only [go_sem, ↓reduceIte, Nat.reduceEqDiff, Nat.reduceLT, Nat.reduceLeDiff, Nat.reduceAdd, Nat.reduceMul, Nat.reduceSub, reduceCtorEq, Nat.reduceMod, Nat.reduceBEq, Int.reduceBEq, Int.reduceBNe, Int.reduceToNat, hin, hlt, e9, e59, e60, e61, getD_encOs ho, q1, q2, q3]
        refine KGet_spec km p.1 _ ?_
        rw [ht, p4]
        have p5 : True := trivial
        simp -implicitDefEqProofs only [go_sem, ↓reduceIte, Nat.reduceEqDiff, Nat.reduceLT, Nat.reduceLeDiff, Nat.reduceAdd, Nat.reduceMul, Nat.reduceSub, reduceCtorEq, Nat.reduceMod, Nat.reduceBEq, Int.reduceBEq, Int.reduceBNe, Int.reduceToNat, e1, e3, c3, p2, p5, same_refl, Option.getD_some, Option.isSome_some, Bool.not_true, Bool.not_false, e61, hk1]
        refine vnext hJ hM _ (fun _ _ h => h) ⟨rfl, k + 1, hlt, ?_, ?_, ?_, ?_, ?_, ?_, ?_, ?_⟩ ?_
        · simp -implicitDefEqProofs only [go_sem, ↓reduceIte, Nat.reduceEqDiff, Nat.reduceLT, Nat.reduceLeDiff, Nat.reduceAdd, Nat.reduceMul, Nat.reduceSub, reduceCtorEq, Nat.reduceMod, Nat.reduceBEq, Int.reduceBEq, Int.reduceBNe, Int.reduceToNat, e1]
        · simp -implicitDefEqProofs only [go_sem, ↓reduceIte, Nat.reduceEqDiff, Nat.reduceLT, Nat.reduceLeDiff, Nat.reduceAdd, Nat.reduceMul, Nat.reduceSub, reduceCtorEq, Nat.reduceMod, Nat.reduceBEq, Int.reduceBEq, Int.reduceBNe, Int.reduceToNat, e2]
        · simp -implicitDefEqProofs only [go_sem, ↓reduceIte, Nat.reduceEqDiff, Nat.reduceLT, Nat.reduceLeDiff, Nat.reduceAdd, Nat.reduceMul, Nat.reduceSub, reduceCtorEq, Nat.reduceMod, Nat.reduceBEq, Int.reduceBEq, Int.reduceBNe, Int.reduceToNat, e3]
        · simp -implicitDefEqProofs only [go_sem, ↓reduceIte, Nat.reduceEqDiff, Nat.reduceLT, Nat.reduceLeDiff, Nat.reduceAdd, Nat.reduceMul, Nat.reduceSub, reduceCtorEq, Nat.reduceMod, Nat.reduceBEq, Int.reduceBEq, Int.reduceBNe, Int.reduceToNat, e9]
        · simp -implicitDefEqProofs only [go_sem, ↓reduceIte, Nat.reduceEqDiff, Nat.reduceLT, Nat.reduceLeDiff, Nat.reduceAdd, Nat.reduceMul, Nat.reduceSub, reduceCtorEq, Nat.reduceMod, Nat.reduceBEq, Int.reduceBEq, Int.reduceBNe, Int.reduceToNat, e11]
        · simp -implicitDefEqProofs only [go_sem, ↓reduceIte, Nat.reduceEqDiff, Nat.reduceLT, Nat.reduceLeDiff, Nat.reduceAdd, Nat.reduceMul, Nat.reduceSub, reduceCtorEq, Nat.reduceMod, Nat.reduceBEq, Int.reduceBEq, Int.reduceBNe, Int.reduceToNat, e59]
        · simp -implicitDefEqProofs only [go_sem, ↓reduceIte, Nat.reduceEqDiff, Nat.reduceLT, Nat.reduceLeDiff, Nat.reduceAdd, Nat.reduceMul, Nat.reduceSub, reduceCtorEq, Nat.reduceMod, Nat.reduceBEq, Int.reduceBEq, Int.reduceBNe, Int.reduceToNat, e60]
        · simp -implicitDefEqProofs only [go_sem, ↓reduceIte, Nat.reduceEqDiff, Nat.reduceLT, Nat.reduceLeDiff, Nat.reduceAdd, Nat.reduceMul, Nat.reduceSub, reduceCtorEq, Nat.reduceMod, Nat.reduceBEq, Int.reduceBEq, Int.reduceBNe, Int.reduceToNat]
        · simp -implicitDefEqProofs only [go_sem, ↓reduceIte, Nat.reduceEqDiff, Nat.reduceLT, Nat.reduceLeDiff, Nat.reduceAdd, Nat.reduceMul, Nat.reduceSub, reduceCtorEq, Nat.reduceMod, Nat.reduceBEq, Int.reduceBEq, Int.reduceBNe, Int.reduceToNat, e61]
          omega
      · have hcc : ¬ (k : Int) < A.length := by omega
        simp -implicitDefEqProofs only [go_sem, ↓reduceIte, Nat.reduceEqDiff, Nat.reduceLT, Nat.reduceLeDiff, Nat.reduceAdd, Nat.reduceMul, Nat.reduceSub, reduceCtorEq, Nat.reduceMod, Nat.reduceBEq, Int.reduceBEq, Int.reduceBNe, Int.reduceToNat, hcc, e60, e61]
        refine hQ _ _ _ ?_
        cases c5 : same frm to
        · -- apart
          simp -implicitDefEqProofs only [go_sem, ↓reduceIte, Nat.reduceEqDiff, Nat.reduceLT, Nat.reduceLeDiff, Nat.reduceAdd, Nat.reduceMul, Nat.reduceSub, reduceCtorEq, Nat.reduceMod, Nat.reduceBEq, Int.reduceBEq, Int.reduceBNe, Int.reduceToNat, c3, c5, e1, e2, e3, e9, e11]
          refine KScan_spec km (by rw [ht]; omega) frm mid _ ?_
          rw [ht]
          simp -implicitDefEqProofs only [go_sem, ↓reduceIte, Nat.reduceEqDiff, Nat.reduceLT, Nat.reduceLeDiff, Nat.reduceAdd, Nat.reduceMul, Nat.reduceSub, reduceCtorEq, Nat.reduceMod, Nat.reduceBEq, Int.reduceBEq, Int.reduceBNe, Int.reduceToNat, e1, e2, e3, e9, e11]
          refine KScan_spec km (by rw [ht]; omega) mid to _ ?_
          rw [ht]
          simp -implicitDefEqProofs only [go_sem, ↓reduceIte, Nat.reduceEqDiff, Nat.reduceLT, Nat.reduceLeDiff, Nat.reduceAdd, Nat.reduceMul, Nat.reduceSub, reduceCtorEq, Nat.reduceMod, Nat.reduceBEq, Int.reduceBEq, Int.reduceBNe, Int.reduceToNat, e1, e2, e3, e9, e11]
          refine concat_spec [(rangeL frm mid L).map kOf, (rangeL mid to L).map kOf] (by simp) (by have z1 := rangeL_len frm mid L; have z2 := rangeL_len mid to L; simp only [lens, List.length_map]; omega) _ _ ?_
          rw [show [(rangeL frm mid L).map kOf, (rangeL mid to L).map kOf].flatten = A by rw [hA, range_split m1 c1 c2 h3]; simp]
          simp -implicitDefEqProofs only [go_sem, ↓reduceIte, Nat.reduceEqDiff, Nat.reduceLT, Nat.reduceLeDiff, Nat.reduceAdd, Nat.reduceMul, Nat.reduceSub, reduceCtorEq, Nat.reduceMod, Nat.reduceBEq, Int.reduceBEq, Int.reduceBNe, Int.reduceToNat]
          refine EqualO_refl _ (by omega) _ _ ?_
          simp -implicitDefEqProofs only [go_sem, ↓reduceIte, Nat.reduceEqDiff, Nat.reduceLT, Nat.reduceLeDiff, Nat.reduceAdd, Nat.reduceMul, Nat.reduceSub, reduceCtorEq, Nat.reduceMod, Nat.reduceBEq, Int.reduceBEq, Int.reduceBNe, Int.reduceToNat]
          refine awake_spec _ _ ?_
          simp -implicitDefEqProofs only [go_sem, ↓reduceIte, Nat.reduceEqDiff, Nat.reduceLT, Nat.reduceLeDiff, Nat.reduceAdd, Nat.reduceMul, Nat.reduceSub, reduceCtorEq, Nat.reduceMod, Nat.reduceBEq, Int.reduceBEq, Int.reduceBNe, Int.reduceToNat]
          exact ⟨S, set_drop hid fun _ _ h => h, hK⟩
        · -- alike, and to is empty
          simp -implicitDefEqProofs only [go_sem, ↓reduceIte, Nat.reduceEqDiff, Nat.reduceLT, Nat.reduceLeDiff, Nat.reduceAdd, Nat.reduceMul, Nat.reduceSub, reduceCtorEq, Nat.reduceMod, Nat.reduceBEq, Int.reduceBEq, Int.reduceBNe, Int.reduceToNat, c3, c5, e1, e2, e3, e9, e11]
          refine KScan_spec km (by rw [ht]; omega) frm mid _ ?_
          rw [ht]
          simp -implicitDefEqProofs only [go_sem, ↓reduceIte, Nat.reduceEqDiff, Nat.reduceLT, Nat.reduceLeDiff, Nat.reduceAdd, Nat.reduceMul, Nat.reduceSub, reduceCtorEq, Nat.reduceMod, Nat.reduceBEq, Int.reduceBEq, Int.reduceBNe, Int.reduceToNat, e1, e2, e3, e9, e11]
          refine KScan_spec km (by rw [ht]; omega) mid to _ ?_
          rw [ht]
          simp -implicitDefEqProofs only [go_sem, ↓reduceIte, Nat.reduceEqDiff, Nat.reduceLT, Nat.reduceLeDiff, Nat.reduceAdd, Nat.reduceMul, Nat.reduceSub, reduceCtorEq, Nat.reduceMod, Nat.reduceBEq, Int.reduceBEq, Int.reduceBNe, Int.reduceToNat, e1, e2, e3, e9, e11]
          refine concat_spec [(rangeL frm mid L).map kOf, (rangeL mid to L).map kOf] (by simp) (by have z1 := rangeL_len frm mid L; have z2 := rangeL_len mid to L; simp only [lens, List.length_map]; omega) _ _ ?_
          rw [show [(rangeL frm mid L).map kOf, (rangeL mid to L).map kOf].flatten = A by rw [hA, range_split m1 c1 c2 h3]; simp]
          simp -implicitDefEqProofs only [go_sem, ↓reduceIte, Nat.reduceEqDiff, Nat.reduceLT, Nat.reduceLeDiff, Nat.reduceAdd, Nat.reduceMul, Nat.reduceSub, reduceCtorEq, Nat.reduceMod, Nat.reduceBEq, Int.reduceBEq, Int.reduceBNe, Int.reduceToNat]
          refine EqualO_refl _ (by omega) _ _ ?_
          simp -implicitDefEqProofs only [go_sem, ↓reduceIte, Nat.reduceEqDiff, Nat.reduceLT, Nat.reduceLeDiff, Nat.reduceAdd, Nat.reduceMul, Nat.reduceSub, reduceCtorEq, Nat.reduceMod, Nat.reduceBEq, Int.reduceBEq, Int.reduceBNe, Int.reduceToNat]
          refine awake_spec _ _ ?_
          simp -implicitDefEqProofs only [go_sem, ↓reduceIte, Nat.reduceEqDiff, Nat.reduceLT, Nat.reduceLeDiff, Nat.reduceAdd, Nat.reduceMul, Nat.reduceSub, reduceCtorEq, Nat.reduceMod, Nat.reduceBEq, Int.reduceBEq, Int.reduceBNe, Int.reduceToNat]
          exact ⟨S, set_drop hid fun _ _ h => h, hK⟩
  cases c4 : lt to mid
  case true =>
    simp -implicitDefEqProofs only [go_sem, ↓reduceIte, Nat.reduceEqDiff, Nat.reduceLT, Nat.reduceLeDiff, Nat.reduceAdd, Nat.reduceMul, Nat.reduceSub, reduceCtorEq, Nat.reduceMod, Nat.reduceBEq, Int.reduceBEq, Int.reduceBNe, Int.reduceToNat, c1, c2, c3, c4]
    refine awake_spec _ _ ?_
    simp -implicitDefEqProofs only [go_sem, ↓reduceIte, Nat.reduceEqDiff, Nat.reduceLT, Nat.reduceLeDiff, Nat.reduceAdd, Nat.reduceMul, Nat.reduceSub, reduceCtorEq, Nat.reduceMod, Nat.reduceBEq, Int.reduceBEq, Int.reduceBNe, Int.reduceToNat]
    exact ⟨S, set_drop hid fun _ _ h => h, hK⟩
  case false =>
    simp -implicitDefEqProofs only [go_sem, ↓reduceIte, Nat.reduceEqDiff, Nat.reduceLT, Nat.reduceLeDiff, Nat.reduceAdd, Nat.reduceMul, Nat.reduceSub, reduceCtorEq, Nat.reduceMod, Nat.reduceBEq, Int.reduceBEq, Int.reduceBNe, Int.reduceToNat, c1, c2, c3, c4]
    have h3 : same to ⟨#[]⟩ = true ∨ lt to mid = false := .inr c4
    refine KScan_spec km (by rw [ht]; omega) frm to _ ?_
    rw [ht]
    obtain ⟨A, hA⟩ : ∃ A, A = (rangeL frm to L).map kOf := ⟨_, rfl⟩
    have hAl : A.length ≤ 600 := by have := rangeL_len frm to L; rw [hA, List.length_map]; omega
    rw [← hA]
    simp -implicitDefEqProofs only [go_sem, ↓reduceIte, Nat.reduceEqDiff, Nat.reduceLT, Nat.reduceLeDiff, Nat.reduceAdd, Nat.reduceMul, Nat.reduceSub, reduceCtorEq, Nat.reduceMod, Nat.reduceBEq, Int.reduceBEq, Int.reduceBNe, Int.reduceToNat]
    refine vloop (fun e S' => S' = S.set id (some [.ip [enc t] 0]) ∧ ∃ k : Nat, k ≤ A.length ∧ e 1 = .str frm ∧ e 2 = .str mid ∧ e 3 = .str to ∧ e 9 = .ref id 0 ∧ e 11 = .sl .no 3 (encOs A) ∧ e 59 = .sl .no 3 (encOs A) ∧ e 60 = .int .i64 A.length ∧ e 61 = .int .i64 k) (fun e _ => A.length - iv (e 61)) ?_ ?_
    · exact ⟨rfl, 0, Nat.zero_le _, rfl, rfl, rfl, rfl, rfl, rfl, rfl, rfl⟩
    · rintro J M Q' hJ hM hQ e S' ⟨rfl, k, hk, e1, e2, e3, e9, e11, e59, e60, e61⟩
      by_cases hlt : k < A.length
      · obtain ⟨o, ho⟩ : ∃ o, A[k]? = some o := ⟨_, List.getElem?_eq_getElem hlt⟩
        have hin : (0 : Int) ≤ k ∧ (k : Int) < A.length := by omega
        have hk1 : IntKind.i64.wrap ((k : Int) + 1) = ((k + 1 : Nat) : Int) := wrap64 (by omega) (by omega)
        obtain ⟨p, hp, rfl⟩ : ∃ p ∈ rangeL frm to L, kOf p = o := List.mem_map.1 (by rw [← hA]; exact List.mem_of_getElem? ho)
        obtain ⟨p1, p2, p3⟩ := range_mem hp
        have p4 := look_isSome_mem (k := p.1) (v := p.2) m1 p1
        have q1 : (kOf p).k = p.1 := rfl
        have q2 : (kOf p).has = true := rfl
        have q3 : (kOf p).v = p.2 := rfl
        simp -implicitDefEqProofs only [go_sem, ↓reduceIte, Nat.reduceEqDiff, Nat.reduceLT, Nat.reduceLeDiff, Nat.reduceAdd, Nat.reduceMul, Nat.reduceSub, reduceCtorEq, Nat.reduceMod, Nat.reduceBEq, Int.reduceBEq, Int.reduceBNe, Int.reduceToNat, hin, hlt, e9, e59, e60, e61, getD_encOs ho, q1, q2, q3]
        refine KGet_spec km p.1 _ ?_
        rw [ht, p4]
        have p5 : lt p.1 to = true := p3.resolve_left (by rw [c3]; decide)
        simp -implicitDefEqProofs only [go_sem, ↓reduceIte, Nat.reduceEqDiff, Nat.reduceLT, Nat.reduceLeDiff, Nat.reduceAdd, Nat.reduceMul, Nat.reduceSub, reduceCtorEq, Nat.reduceMod, Nat.reduceBEq, Int.reduceBEq, Int.reduceBNe, Int.reduceToNat, e1, e3, c3, p2, p5, same_refl, Option.getD_some, Option.isSome_some, Bool.not_true, Bool.not_false, e61, hk1]
        refine vnext hJ hM _ (fun _ _ h => h) ⟨rfl, k + 1, hlt, ?_, ?_, ?_, ?_, ?_, ?_, ?_, ?_⟩ ?_
        · simp -implicitDefEqProofs only [go_sem, ↓reduceIte, Nat.reduceEqDiff, Nat.reduceLT, Nat.reduceLeDiff, Nat.reduceAdd, Nat.reduceMul, Nat.reduceSub, reduceCtorEq, Nat.reduceMod, Nat.reduceBEq, Int.reduceBEq, Int.reduceBNe, Int.reduceToNat, e1]
        · simp -implicitDefEqProofs only [go_sem, ↓reduceIte, Nat.reduceEqDiff, Nat.reduceLT, Nat.reduceLeDiff, Nat.reduceAdd, Nat.reduceMul, Nat.reduceSub, reduceCtorEq, Nat.reduceMod, Nat.reduceBEq, Int.reduceBEq, Int.reduceBNe, Int.reduceToNat, e2]
        · simp -implicitDefEqProofs only [go_sem, ↓reduceIte, Nat.reduceEqDiff, Nat.reduceLT, Nat.reduceLeDiff, Nat.reduceAdd, Nat.reduceMul, Nat.reduceSub, reduceCtorEq, Nat.reduceMod, Nat.reduceBEq, Int.reduceBEq, Int.reduceBNe, Int.reduceToNat, e3]
        · simp -implicitDefEqProofs only [go_sem, ↓reduceIte, Nat.reduceEqDiff, Nat.reduceLT, Nat.reduceLeDiff, Nat.reduceAdd, Nat.reduceMul, Nat.reduceSub, reduceCtorEq, Nat.reduceMod, Nat.reduceBEq, Int.reduceBEq, Int.reduceBNe, Int.reduceToNat, e9]
        · simp -implicitDefEqProofs only [go_sem, ↓reduceIte, Nat.reduceEqDiff, Nat.reduceLT, Nat.reduceLeDiff, Nat.reduceAdd, Nat.reduceMul, Nat.reduceSub, reduceCtorEq, Nat.reduceMod, Nat.reduceBEq, Int.reduceBEq, Int.reduceBNe, Int.reduceToNat, e11]
        · simp -implicitDefEqProofs only [go_sem, ↓reduceIte, Nat.reduceEqDiff, Nat.reduceLT, Nat.reduceLeDiff, Nat.reduceAdd, Nat.reduceMul, Nat.reduceSub, reduceCtorEq, Nat.reduceMod, Nat.reduceBEq, Int.reduceBEq, Int.reduceBNe, Int.reduceToNat, e59]
        · simp -implicitDefEqProofs only [go_sem, ↓reduceIte, Nat.reduceEqDiff, Nat.reduceLT, Nat.reduceLeDiff, Nat.reduceAdd, Nat.reduceMul, Nat.reduceSub, reduceCtorEq, Nat.reduceMod, Nat.reduceBEq, Int.reduceBEq, Int.reduceBNe, Int.reduceToNat, e60]
        · simp -implicitDefEqProofs only [go_sem, ↓reduceIte, Nat.reduceEqDiff, Nat.reduceLT, Nat.reduceLeDiff, Nat.reduceAdd, Nat.reduceMul, Nat.reduceSub, reduceCtorEq, Nat.reduceMod, Nat.reduceBEq, Int.reduceBEq, Int.reduceBNe, Int.reduceToNat]
        · simp -implicitDefEqProofs only [go_sem, ↓reduceIte, Nat.reduceEqDiff, Nat.reduceLT, Nat.reduceLeDiff, Nat.reduceAdd, Nat.reduceMul, Nat.reduceSub, reduceCtorEq, Nat.reduceMod, Nat.reduceBEq, Int.reduceBEq, Int.reduceBNe, Int.reduceToNat, e61]
          omega
      · have hcc : ¬ (k : Int) < A.length := by omega
        simp -implicitDefEqProofs only [go_sem, ↓reduceIte, Nat.reduceEqDiff, Nat.reduceLT, Nat.reduceLeDiff, Nat.reduceAdd, Nat.reduceMul, Nat.reduceSub, reduceCtorEq, Nat.reduceMod, Nat.reduceBEq, Int.reduceBEq, Int.reduceBNe, Int.reduceToNat, hcc, e60, e61]
        refine hQ _ _ _ ?_
        cases c5 : same frm to
        · -- apart
          simp -implicitDefEqProofs only [go_sem, ↓reduceIte, Nat.reduceEqDiff, Nat.reduceLT, Nat.reduceLeDiff, Nat.reduceAdd, Nat.reduceMul, Nat.reduceSub, reduceCtorEq, Nat.reduceMod, Nat.reduceBEq, Int.reduceBEq, Int.reduceBNe, Int.reduceToNat, c3, c5, e1, e2, e3, e9, e11]
          refine KScan_spec km (by rw [ht]; omega) frm mid _ ?_
          rw [ht]
          simp -implicitDefEqProofs only [go_sem, ↓reduceIte, Nat.reduceEqDiff, Nat.reduceLT, Nat.reduceLeDiff, Nat.reduceAdd, Nat.reduceMul, Nat.reduceSub, reduceCtorEq, Nat.reduceMod, Nat.reduceBEq, Int.reduceBEq, Int.reduceBNe, Int.reduceToNat, e1, e2, e3, e9, e11]
          refine KScan_spec km (by rw [ht]; omega) mid to _ ?_
          rw [ht]
          simp -implicitDefEqProofs only [go_sem, ↓reduceIte, Nat.reduceEqDiff, Nat.reduceLT, Nat.reduceLeDiff, Nat.reduceAdd, Nat.reduceMul, Nat.reduceSub, reduceCtorEq, Nat.reduceMod, Nat.reduceBEq, Int.reduceBEq, Int.reduceBNe, Int.reduceToNat, e1, e2, e3, e9, e11]
          refine concat_spec [(rangeL frm mid L).map kOf, (rangeL mid to L).map kOf] (by simp) (by have z1 := rangeL_len frm mid L; have z2 := rangeL_len mid to L; simp only [lens, List.length_map]; omega) _ _ ?_
          rw [show [(rangeL frm mid L).map kOf, (rangeL mid to L).map kOf].flatten = A by rw [hA, range_split m1 c1 c2 h3]; simp]
          simp -implicitDefEqProofs only [go_sem, ↓reduceIte, Nat.reduceEqDiff, Nat.reduceLT, Nat.reduceLeDiff, Nat.reduceAdd, Nat.reduceMul, Nat.reduceSub, reduceCtorEq, Nat.reduceMod, Nat.reduceBEq, Int.reduceBEq, Int.reduceBNe, Int.reduceToNat]
          refine EqualO_refl _ (by omega) _ _ ?_
          simp -implicitDefEqProofs only [go_sem, ↓reduceIte, Nat.reduceEqDiff, Nat.reduceLT, Nat.reduceLeDiff, Nat.reduceAdd, Nat.reduceMul, Nat.reduceSub, reduceCtorEq, Nat.reduceMod, Nat.reduceBEq, Int.reduceBEq, Int.reduceBNe, Int.reduceToNat]
          refine awake_spec _ _ ?_
          simp -implicitDefEqProofs only [go_sem, ↓reduceIte, Nat.reduceEqDiff, Nat.reduceLT, Nat.reduceLeDiff, Nat.reduceAdd, Nat.reduceMul, Nat.reduceSub, reduceCtorEq, Nat.reduceMod, Nat.reduceBEq, Int.reduceBEq, Int.reduceBNe, Int.reduceToNat]
          exact ⟨S, set_drop hid fun _ _ h => h, hK⟩
        · -- nothing between
          have hE : frm = to := same_iff.1 c5
          subst hE
          rw [range_none c3] at hA
          simp only [List.map_nil] at hA
          subst hA
          simp -implicitDefEqProofs only [go_sem, ↓reduceIte, Nat.reduceEqDiff, Nat.reduceLT, Nat.reduceLeDiff, Nat.reduceAdd, Nat.reduceMul, Nat.reduceSub, reduceCtorEq, Nat.reduceMod, Nat.reduceBEq, Int.reduceBEq, Int.reduceBNe, Int.reduceToNat, c3, c5, e1, e3, e11, encOs, List.map_nil, List.length_nil, z00]
          refine awake_spec _ _ ?_
          simp -implicitDefEqProofs only [go_sem, ↓reduceIte, Nat.reduceEqDiff, Nat.reduceLT, Nat.reduceLeDiff, Nat.reduceAdd, Nat.reduceMul, Nat.reduceSub, reduceCtorEq, Nat.reduceMod, Nat.reduceBEq, Int.reduceBEq, Int.reduceBNe, Int.reduceToNat]
          exact ⟨S, set_drop hid fun _ _ h => h, hK⟩
end Go.Proofs.Ytmplfmhcpkmpbaa.V
