/- Trees: TreeTurns. -/
import Derived.Test.YtmedhhjbknnfkaaTY
set_option linter.unusedVariables false
set_option linter.unusedSimpArgs false
namespace Go.Proofs.Ytmedhhjbknnfkaa.V
open Go Go.VL

theorem bl_next : ∀ x y : List UInt8, Op.bytesLess x (y ++ [0]) = !Op.bytesLess y x
  | [], [] => rfl
  | [], _ :: _ => rfl
  | a :: x, [] => by
    have : ¬ a < 0 := by simp [UInt8.lt_iff_toNat_lt]
    cases x <;> simp [Op.bytesLess, this]
  | a :: x, b :: y => by
    have ih := bl_next x y
    simp only [List.cons_append, Op.bytesLess, ih]
    by_cases h : a = b
    · subst h
      simp
    · rcases UInt8.lt_or_lt_of_ne h with h1 | h1
      · have h2 : ¬ b < a := fun h2 => by simp only [UInt8.lt_iff_toNat_lt] at h1 h2; omega
        have h3 : ¬ b = a := fun e => h e.symm
        simp [h1, h2, h, h3]
      · have h2 : ¬ a < b := fun h2 => by simp only [UInt8.lt_iff_toNat_lt] at h1 h2; omega
        simp [h1, h2, h]
theorem lt_next (a k : ByteArray) : lt a (k ++ ⟨#[0]⟩) = !lt k a := by
  unfold lt
  have : (k ++ (⟨#[0]⟩ : ByteArray)).toList = k.toList ++ [0] := by
    rw [ByteArray.toList_eq, ByteArray.toList_eq, ByteArray.data_append, Array.toList_append]
  rw [this]
  exact bl_next _ _
theorem below_next {L : List Pr} {k : Nat} {p : Pr} (hs : Sorted L) (hp : L[k]? = some p) : (below p.1 L).length = k ∧ look p.1 L = some p.2 ∧ (below (p.1 ++ ⟨#[0]⟩) L).length = k + 1 := by
  obtain ⟨hlt, hx⟩ := List.getElem?_eq_some_iff.1 hp
  have hL : L = L.take k ++ (p.1, p.2) :: L.drop (k + 1) := by
    rw [← hx, ← List.drop_eq_getElem_cons hlt, List.take_append_drop]
  have hlen : (L.take k).length = k := by rw [List.length_take]; omega
  generalize L.take k = A at hL hlen
  generalize L.drop (k + 1) = B at hL
  subst hL
  obtain ⟨e1, e2, e3⟩ := mid_at hs
  have hx : lt p.1 (p.1 ++ ⟨#[0]⟩) = true := by rw [lt_next, lt_irrefl]; rfl
  obtain ⟨f1, _, _⟩ := mid_more hs hx
  have hB : below (p.1 ++ ⟨#[0]⟩) B = [] := below_none fun b hb => by
    rw [lt_next, (sorted_mid hs).2.2.2 b hb]; rfl
  refine ⟨by rw [e1, hlen], e3, ?_⟩
  rw [f1, hB]
  simp [hlen]

theorem short_size : ∀ (L : List (List Do)) (n : Nat), shortF n L = true → n ≤ 16384 → ∀ l ∈ L, ∀ d ∈ l, min d.k.size 16384 + min d.v.size 16384 ≤ 16384 := by
  have one : ∀ (l : List Do) (n m : Nat), shortI n l = some m → n ≤ 16384 → m ≤ 16384 ∧ ∀ d ∈ l, cost d ≤ 16384 := by
    intro l
    induction l with
    | nil => intro n m h hn; simp only [shortI, Option.some.injEq] at h; subst h; exact ⟨hn, by simp⟩
    | cons d l ih =>
      intro n m h hn
      rw [shortI] at h
      split at h
      · cases h
      · obtain ⟨h1, h2⟩ := ih _ m h (by omega)
        refine ⟨h1, fun x hx => ?_⟩
        rcases List.mem_cons.1 hx with rfl | hx
        · omega
        · exact h2 x hx
  intro L
  induction L with
  | nil => intro n h hn l hl; cases hl
  | cons l0 L ih =>
    intro n h hn l hl
    unfold shortF at h
    split at h
    · cases h
    · split at h
      · cases h
      · rename_i m hm
        obtain ⟨a1, a2⟩ := one l0 n m hm hn
        rcases List.mem_cons.1 hl with rfl | hl
        · exact a2
        · exact ih m h a1 l hl

/-- No key of these is longer. -/
def KeyOk (L : List Pr) : Prop := ∀ p ∈ L, p.1.size ≤ reachBytes
theorem key_done {L : List Pr} (h : KeyOk L) {d : Do} (hd : d.k.size ≤ reachBytes) : KeyOk (doneL d L) := by
  intro p hp
  unfold doneL at hp
  split at hp
  · unfold putL at hp
    rcases List.mem_append.1 hp with hp | hp
    · exact h p (mem_below.1 hp).1
    · rcases List.mem_cons.1 hp with rfl | hp
      · exact hd
      · exact h p (mem_above.1 hp).1
  · exact h p (List.mem_filter.1 hp).1
theorem key_all : ∀ (l : List Do) (L : List Pr), KeyOk L → (∀ d ∈ l, d.k.size ≤ reachBytes) → KeyOk (doneAll l L)
  | [], L, h, _ => h
  | d :: l, L, h, hd => key_all l (doneL d L) (key_done h (hd d List.mem_cons_self)) fun x hx => hd x (List.mem_cons_of_mem _ hx)

set_option maxHeartbeats 1000000 in
theorem turns_law (l : List Do) (hz : ∀ d ∈ l, d.k.size ≤ reachBytes) (S : Store) : PRet Try.prog 8 [.sl .no 3 (encDos l)] S (.bool true) := by
  intro K hK
  refine pcalls_of (C := C) (fun _ => false) (fun _ => false) Try.func8 rfl rfl (by simp [Try.f8]) ?_
  simp -implicitDefEqProofs only [go_sem, ↓reduceIte, Nat.reduceEqDiff, Nat.reduceLT, Nat.reduceLeDiff, Nat.reduceAdd, Nat.reduceMul, Nat.reduceSub, reduceCtorEq, Nat.reduceMod, Nat.reduceBEq, Int.reduceBEq, Int.reduceBNe, Int.reduceToNat, Try.f8]
  refine short_spec [l] (by simp) _ _ ?_
  cases h1 : shortF 0 [l]
  · simp -implicitDefEqProofs only [go_sem, ↓reduceIte, Nat.reduceEqDiff, Nat.reduceLT, Nat.reduceLeDiff, Nat.reduceAdd, Nat.reduceMul, Nat.reduceSub, reduceCtorEq, Nat.reduceMod, Nat.reduceBEq, Int.reduceBEq, Int.reduceBNe, Int.reduceToNat, h1]
    refine awake_spec _ _ ?_
    simp -implicitDefEqProofs only [go_sem, ↓reduceIte, Nat.reduceEqDiff, Nat.reduceLT, Nat.reduceLeDiff, Nat.reduceAdd, Nat.reduceMul, Nat.reduceSub, reduceCtorEq, Nat.reduceMod, Nat.reduceBEq, Int.reduceBEq, Int.reduceBNe, Int.reduceToNat]
    exact ⟨S, fun _ _ h => h, hK⟩
  · have hl : l.length ≤ 300 := short_len _ _ h1 _ (by simp)
    simp -implicitDefEqProofs only [go_sem, ↓reduceIte, Nat.reduceEqDiff, Nat.reduceLT, Nat.reduceLeDiff, Nat.reduceAdd, Nat.reduceMul, Nat.reduceSub, reduceCtorEq, Nat.reduceMod, Nat.reduceBEq, Int.reduceBEq, Int.reduceBNe, Int.reduceToNat, h1]
    refine made_calls l (by omega) _ _ fun t ot lt0 => ?_
    obtain ⟨s1, s2⟩ := doneAll_ok l [] List.Pairwise.nil
    have hko := key_all l [] (by intro p hp; cases hp) hz
    simp only [List.length_nil] at s2
    rw [← lt0] at s1 s2 hko ⊢
    simp -implicitDefEqProofs only [go_sem, ↓reduceIte, Nat.reduceEqDiff, Nat.reduceLT, Nat.reduceLeDiff, Nat.reduceAdd, Nat.reduceMul, Nat.reduceSub, reduceCtorEq, Nat.reduceMod, Nat.reduceBEq, Int.reduceBEq, Int.reduceBNe, Int.reduceToNat]
    refine len_spec (Tr.mk t) _ _ ?_
    rw [(ok_size t ot).1]
    simp -implicitDefEqProofs only [go_sem, ↓reduceIte, Nat.reduceEqDiff, Nat.reduceLT, Nat.reduceLeDiff, Nat.reduceAdd, Nat.reduceMul, Nat.reduceSub, reduceCtorEq, Nat.reduceMod, Nat.reduceBEq, Int.reduceBEq, Int.reduceBNe, Int.reduceToNat]
    refine vloop (fun e S' => S' = S ∧ ∃ (k : Nat), k ≤ t.list.length ∧ e 3 = .ip [enc t] 0 ∧ e 21 = .int .i64 t.list.length ∧ e 22 = .int .i64 k) (fun e _ => t.list.length - iv (e 22)) ?_ ?_
    · exact ⟨rfl, 0, Nat.zero_le _, rfl, rfl, rfl⟩
    · rintro J M Q' hJ hM hQ e S' ⟨rfl, k, hk, e3, e21, e22⟩
      by_cases hlt : k < t.list.length
      · obtain ⟨p, hp⟩ : ∃ p, t.list[k]? = some p := ⟨_, List.getElem?_eq_getElem hlt⟩
        obtain ⟨b1, b2, b3⟩ := below_next s1 hp
        have hat : atL t.list (k : Int) = some p := by unfold atL; rw [if_pos (by omega)]; exact hp
        have hin : (0 : Int) ≤ k ∧ (k : Int) < t.list.length := by omega
        have hk1 : IntKind.i64.wrap ((k : Int) + 1) = ((k + 1 : Nat) : Int) := wrap64 (by omega) (by omega)
        have hsz : p.1.size + 1 ≤ 9223372036854775807 := by
          have := hko p (List.mem_of_getElem? hp)
          unfold reachBytes at this
          omega
        have hadd : pbin .add (.str p.1) (.str ⟨#[0]⟩) = some (.str (p.1 ++ ⟨#[0]⟩)) := x_pb_sadd hsz
        simp -implicitDefEqProofs only [go_sem, ↓reduceIte, Nat.reduceEqDiff, Nat.reduceLT, Nat.reduceLeDiff, Nat.reduceAdd, Nat.reduceMul, Nat.reduceSub, reduceCtorEq, Nat.reduceMod, Nat.reduceBEq, Int.reduceBEq, Int.reduceBNe, Int.reduceToNat, hin, hlt, e3, e21, e22]
        refine At_spec (Tr.mk t) ot (by omega) (k : Int) _ _ ?_
        rw [hat, encOp]
        simp -implicitDefEqProofs only [go_sem, ↓reduceIte, Nat.reduceEqDiff, Nat.reduceLT, Nat.reduceLeDiff, Nat.reduceAdd, Nat.reduceMul, Nat.reduceSub, reduceCtorEq, Nat.reduceMod, Nat.reduceBEq, Int.reduceBEq, Int.reduceBNe, Int.reduceToNat, e3]
        refine Get_spec (Tr.mk t) s1 p.1 _ _ ?_
        rw [b2]
        simp -implicitDefEqProofs only [go_sem, ↓reduceIte, Nat.reduceEqDiff, Nat.reduceLT, Nat.reduceLeDiff, Nat.reduceAdd, Nat.reduceMul, Nat.reduceSub, reduceCtorEq, Nat.reduceMod, Nat.reduceBEq, Int.reduceBEq, Int.reduceBNe, Int.reduceToNat, e3, Option.getD_some, Option.isSome_some]
        refine Rank_spec (Tr.mk t) ot s1 (by omega) p.1 _ _ ?_
        rw [b1]
        simp -implicitDefEqProofs only [go_sem, ↓reduceIte, Nat.reduceEqDiff, Nat.reduceLT, Nat.reduceLeDiff, Nat.reduceAdd, Nat.reduceMul, Nat.reduceSub, reduceCtorEq, Nat.reduceMod, Nat.reduceBEq, Int.reduceBEq, Int.reduceBNe, Int.reduceToNat, e3, bne_self_eq_false, hadd]
        refine Rank_spec (Tr.mk t) ot s1 (by omega) _ _ _ ?_
        rw [b3]
        simp -implicitDefEqProofs only [go_sem, ↓reduceIte, Nat.reduceEqDiff, Nat.reduceLT, Nat.reduceLeDiff, Nat.reduceAdd, Nat.reduceMul, Nat.reduceSub, reduceCtorEq, Nat.reduceMod, Nat.reduceBEq, Int.reduceBEq, Int.reduceBNe, Int.reduceToNat, e22, hk1, bne_self_eq_false]
        refine vnext hJ hM S' (fun _ _ h => h) ⟨rfl, k + 1, hlt, ?_, ?_, ?_⟩ ?_
        · simp -implicitDefEqProofs only [go_sem, ↓reduceIte, Nat.reduceEqDiff, Nat.reduceLT, Nat.reduceLeDiff, Nat.reduceAdd, Nat.reduceMul, Nat.reduceSub, reduceCtorEq, Nat.reduceMod, Nat.reduceBEq, Int.reduceBEq, Int.reduceBNe, Int.reduceToNat, e3]
        · simp -implicitDefEqProofs only [go_sem, ↓reduceIte, Nat.reduceEqDiff, Nat.reduceLT, Nat.reduceLeDiff, Nat.reduceAdd, Nat.reduceMul, Nat.reduceSub, reduceCtorEq, Nat.reduceMod, Nat.reduceBEq, Int.reduceBEq, Int.reduceBNe, Int.reduceToNat, e21]
        · simp -implicitDefEqProofs only [go_sem, ↓reduceIte, Nat.reduceEqDiff, Nat.reduceLT, Nat.reduceLeDiff, Nat.reduceAdd, Nat.reduceMul, Nat.reduceSub, reduceCtorEq, Nat.reduceMod, Nat.reduceBEq, Int.reduceBEq, Int.reduceBNe, Int.reduceToNat]
        · simp -implicitDefEqProofs only [go_sem, ↓reduceIte, Nat.reduceEqDiff, Nat.reduceLT, Nat.reduceLeDiff, Nat.reduceAdd, Nat.reduceMul, Nat.reduceSub, reduceCtorEq, Nat.reduceMod, Nat.reduceBEq, Int.reduceBEq, Int.reduceBNe, Int.reduceToNat, e22]
          omega
      · have hcc : ¬ (k : Int) < t.list.length := by omega
        simp -implicitDefEqProofs only [go_sem, ↓reduceIte, Nat.reduceEqDiff, Nat.reduceLT, Nat.reduceLeDiff, Nat.reduceAdd, Nat.reduceMul, Nat.reduceSub, reduceCtorEq, Nat.reduceMod, Nat.reduceBEq, Int.reduceBEq, Int.reduceBNe, Int.reduceToNat, hcc, e21, e22]
        refine hQ _ _ _ ?_
        simp -implicitDefEqProofs only [go_sem, ↓reduceIte, Nat.reduceEqDiff, Nat.reduceLT, Nat.reduceLeDiff, Nat.reduceAdd, Nat.reduceMul, Nat.reduceSub, reduceCtorEq, Nat.reduceMod, Nat.reduceBEq, Int.reduceBEq, Int.reduceBNe, Int.reduceToNat]
        refine awake_spec _ _ ?_
        simp -implicitDefEqProofs only [go_sem, ↓reduceIte, Nat.reduceEqDiff, Nat.reduceLT, Nat.reduceLeDiff, Nat.reduceAdd, Nat.reduceMul, Nat.reduceSub, reduceCtorEq, Nat.reduceMod, Nat.reduceBEq, Int.reduceBEq, Int.reduceBNe, Int.reduceToNat]
        exact ⟨S', fun _ _ h => h, hK⟩
end Go.Proofs.Ytmedhhjbknnfkaa.V
