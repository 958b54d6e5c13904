/- Trees: two together, the first without the second, what is in both. -/
import Derived.Test.YtmedhhjbknnfkaaUD
set_option linter.unusedVariables false
set_option linter.unusedSimpArgs false
namespace Go.Proofs.Ytmedhhjbknnfkaa.V
open Go Go.VL

def minusL (A B : List Pr) : List Pr := A.filter fun p => (look p.1 B).isNone
def bothL (A B : List Pr) : List Pr := A.filter fun p => (look p.1 B).isSome
theorem minusL_len (A B : List Pr) : (minusL A B).length ≤ A.length := List.length_filter_le _ _
theorem bothL_len (A B : List Pr) : (bothL A B).length ≤ A.length := List.length_filter_le _ _
theorem minusL_sorted {A : List Pr} (h : Sorted A) (B : List Pr) : Sorted (minusL A B) := sorted_sub h List.filter_sublist
theorem bothL_sorted {A : List Pr} (h : Sorted A) (B : List Pr) : Sorted (bothL A B) := sorted_sub h List.filter_sublist
theorem look_below {A : List Pr} {x k : ByteArray} (h : lt x k = true) : look x (below k A) = look x A := look_filter (q := fun y => lt y k) h A
theorem look_above {A : List Pr} {x k : ByteArray} (h : lt k x = true) : look x (above k A) = look x A := look_filter (q := fun y => lt k y) h A
theorem unionL_mem {A B : List Pr} (hA : Sorted A) (hB : Sorted B) {p : Pr} (h : p ∈ unionL A B) : (∃ v, (p.1, v) ∈ A) ∨ (∃ v, (p.1, v) ∈ B) := by
  have h1 := look_mem (unionL_ok B A hA).1 h
  rw [look_unionL p.1 B A hA hB] at h1
  cases hb : look p.1 B with
  | some w => exact .inr ⟨w, look_some hb⟩
  | none =>
    rw [hb, Option.none_or] at h1
    exact .inl ⟨p.2, look_some h1⟩
theorem union_mid {A BL BR : List Pr} {k v : ByteArray} (hA : Sorted A) (hB : Sorted (BL ++ (k, v) :: BR)) :
    unionL (below k A) BL ++ (k, v) :: unionL (above k A) BR = unionL A (BL ++ (k, v) :: BR) := by
  obtain ⟨sl, sr, b1, b2⟩ := sorted_mid hB
  have m1 : ∀ p ∈ unionL (below k A) BL, lt p.1 k = true := fun p hp => by
    rcases unionL_mem (sorted_below hA k) sl hp with ⟨w, hw⟩ | ⟨w, hw⟩
    · exact (mem_below (p := (p.1, w)).1 hw).2
    · exact b1 (p.1, w) hw
  have m2 : ∀ p ∈ unionL (above k A) BR, lt k p.1 = true := fun p hp => by
    rcases unionL_mem (sorted_above hA k) sr hp with ⟨w, hw⟩ | ⟨w, hw⟩
    · exact (mem_above (p := (p.1, w)).1 hw).2
    · exact b2 (p.1, w) hw
  have hs : Sorted (unionL (below k A) BL ++ (k, v) :: unionL (above k A) BR) := sorted_mk (unionL_ok BL _ (sorted_below hA k)).1 (unionL_ok BR _ (sorted_above hA k)).1 m1 m2
  refine sorted_ext hs (unionL_ok _ A hA).1 fun x => ?_
  rw [look_unionL x _ A hA hB]
  rcases (Bool.eq_false_or_eq_true (lt x k)).symm with c | c
  · rcases (Bool.eq_false_or_eq_true (lt k x)).symm with c2 | c2
    · have hx := lt_tri c c2
      subst hx
      rw [(mid_at hs).2.2, (mid_at hB).2.2]
      rfl
    · rw [(mid_more hs c2).2.2, (mid_more hB c2).2.2, look_unionL x BR _ (sorted_above hA k) sr, look_above c2]
  · rw [(mid_less hs c).2.2, (mid_less hB c).2.2, look_unionL x BL _ (sorted_below hA k) sl, look_below c]
theorem filter_congr' {q r : Pr → Bool} : ∀ {L : List Pr}, (∀ p ∈ L, q p = r p) → L.filter q = L.filter r
  | [], _ => rfl
  | p :: L, h => by
    rw [List.filter_cons, List.filter_cons, h p List.mem_cons_self, filter_congr' fun x hx => h x (List.mem_cons_of_mem _ hx)]
theorem minus_mid {A BL BR : List Pr} {k v : ByteArray} (hA : Sorted A) (hB : Sorted (BL ++ (k, v) :: BR)) :
    minusL (below k A) BL ++ minusL (above k A) BR = minusL A (BL ++ (k, v) :: BR) := by
  have e1 : minusL (below k A) BL = minusL (below k A) (BL ++ (k, v) :: BR) := filter_congr' fun p hp => by rw [(mid_less hB (mem_below.1 hp).2).2.2]
  have e2 : minusL (above k A) BR = minusL (above k A) (BL ++ (k, v) :: BR) := filter_congr' fun p hp => by rw [(mid_more hB (mem_above.1 hp).2).2.2]
  rw [e1, e2]
  rcases split3 hA k with ⟨w, _, h2⟩ | ⟨_, h2⟩
  · conv => rhs; rw [h2]
    unfold minusL
    rw [List.filter_append, List.filter_cons, (mid_at hB).2.2]
    rfl
  · conv => rhs; rw [h2]
    unfold minusL
    rw [List.filter_append]
theorem both_mid {A BL BR : List Pr} {k v : ByteArray} (hA : Sorted A) (hB : Sorted (BL ++ (k, v) :: BR)) :
    bothL A (BL ++ (k, v) :: BR) = bothL (below k A) BL ++ (match look k A with | none => [] | some w => [(k, w)]) ++ bothL (above k A) BR := by
  have e1 : bothL (below k A) BL = bothL (below k A) (BL ++ (k, v) :: BR) := filter_congr' fun p hp => by rw [(mid_less hB (mem_below.1 hp).2).2.2]
  have e2 : bothL (above k A) BR = bothL (above k A) (BL ++ (k, v) :: BR) := filter_congr' fun p hp => by rw [(mid_more hB (mem_above.1 hp).2).2.2]
  rw [e1, e2]
  rcases split3 hA k with ⟨w, h1, h2⟩ | ⟨h1, h2⟩
  · rw [h1]
    conv => lhs; rw [h2]
    unfold bothL
    rw [List.filter_append, List.filter_cons, (mid_at hB).2.2]
    simp
  · rw [h1]
    conv => lhs; rw [h2]
    unfold bothL
    rw [List.filter_append]
    simp
theorem look_nil (k : ByteArray) : look k [] = none := rfl
theorem unionL_nil {B : List Pr} (h : Sorted B) : unionL [] B = B := sorted_ext (unionL_ok B [] List.Pairwise.nil).1 h fun k => by rw [look_unionL k B [] List.Pairwise.nil h, look_nil, Option.or_none]
theorem minusL_nil (A : List Pr) : minusL A [] = A := List.filter_eq_self.2 fun p _ => rfl
theorem bothL_nil (A : List Pr) : bothL A [] = [] := List.filter_eq_nil_iff.2 fun p _ => by simp [look_nil]
theorem minusL_self {A : List Pr} (h : Sorted A) : minusL A A = [] := List.filter_eq_nil_iff.2 fun p hp => by rw [look_mem h hp]; simp

theorem union_spec : ∀ (b a : T), Ok a → Ok b → Sorted a.list → Sorted b.list → a.list.length + b.list.length ≤ 400000 →
    ∃ r, Ok r ∧ r.list = unionL a.list b.list ∧ (a = b → r = a) ∧ ∀ S, PRet Try.prog 67 [enc a, enc b] S (enc r)
  | b, .nil, _, hb, _, sb, _ => by
    refine ⟨b, hb, (unionL_nil sb).symm, fun h => h.symm, fun S K hK => ?_⟩
    refine pcalls_of (C := C) (fun _ => false) (fun _ => false) Try.func67 rfl rfl (by simp [Try.f67]) ?_
    simp -implicitDefEqProofs only [go_sem, ↓reduceIte, Nat.reduceEqDiff, Nat.reduceLT, Nat.reduceLeDiff, Nat.reduceAdd, Nat.reduceMul, Nat.reduceSub, reduceCtorEq, Nat.reduceMod, Nat.reduceBEq, Int.reduceBEq, Int.reduceBNe, Int.reduceToNat, Try.f67, enc_nil]
    exact ⟨S, fun _ _ h => h, hK⟩
  | .nil, .node ak av al ar ad sz, ha, _, _, _, _ => by
    refine ⟨.node ak av al ar ad sz, ha, rfl, fun _ => rfl, fun S K hK => ?_⟩
    refine pcalls_of (C := C) (fun _ => false) (fun _ => false) Try.func67 rfl rfl (by simp [Try.f67]) ?_
    simp -implicitDefEqProofs only [go_sem, ↓reduceIte, Nat.reduceEqDiff, Nat.reduceLT, Nat.reduceLeDiff, Nat.reduceAdd, Nat.reduceMul, Nat.reduceSub, reduceCtorEq, Nat.reduceMod, Nat.reduceBEq, Int.reduceBEq, Int.reduceBNe, Int.reduceToNat, Try.f67, enc_nil, enc_node]
    exact ⟨S, fun _ _ h => h, hK⟩
  | .node k v bl br bd bs, .node ak av al ar ad sz, ha, hb, sa, sb, hn => by
    have sb0 := sb
    have hb0 := hb
    obtain ⟨hbl, hbr, _, _, hd1, hd2⟩ := hb
    simp only [T.list] at sb
    have hnb : (T.node k v bl br bd bs).list.length = bl.list.length + (br.list.length + 1) := by simp only [T.list, List.length_append, List.length_cons]
    obtain ⟨sl, sr, _, _⟩ := sorted_mid sb
    obtain ⟨x, y, c, ox, oy, lx, ly, _, hsame, hsp⟩ := split_spec k (.node ak av al ar ad sz) ha sa (by omega)
    generalize hA : T.node ak av al ar ad sz = a at ha sa hn lx ly hsame hsp ⊢
    have l1 := below_len k a.list
    have l2 := above_len k a.list
    have htw := two_len k a.list
    obtain ⟨r1, o1, e1, q1, p1⟩ := union_spec bl x ox hbl (by rw [lx]; exact sorted_below sa k) sl (by rw [lx]; omega)
    obtain ⟨r2, o2, e2, q2, p2⟩ := union_spec br y oy hbr (by rw [ly]; exact sorted_above sa k) sr (by rw [ly]; omega)
    have u1 := (unionL_ok bl.list _ (sorted_below sa k)).2
    have u2 := (unionL_ok br.list _ (sorted_above sa k)).2
    rw [lx] at e1
    rw [ly] at e2
    obtain ⟨r, j1, j2, j3, j4⟩ := join_spec o1 o2 k v (by rw [e1, e2]; omega)
    have hself : a = .node k v bl br bd bs → r = a := fun h => by
      obtain ⟨f1, f2, _⟩ := hsame k v bl br bd bs h rfl
      have g1 := q1 f1
      have g2 := q2 f2
      rw [f1] at g1
      rw [f2] at g2
      subst g1
      subst g2
      rw [j3 hd1 hd2, over_eq hb0, h]
    refine ⟨r, j1, by rw [j2, e1, e2, T.list]; exact union_mid sa sb, hself, fun S K hK => ?_⟩
    refine pcalls_of (C := C) (fun _ => false) (fun _ => false) Try.func67 rfl rfl (by simp [Try.f67]) ?_
    have hAe : enc a = .np [.str ak, .str av, enc al, enc ar, .int .i64 ad, .int .i64 sz] := by rw [← hA]; rfl
    simp -implicitDefEqProofs only [go_sem, ↓reduceIte, Nat.reduceEqDiff, Nat.reduceLT, Nat.reduceLeDiff, Nat.reduceAdd, Nat.reduceMul, Nat.reduceSub, reduceCtorEq, Nat.reduceMod, Nat.reduceBEq, Int.reduceBEq, Int.reduceBNe, Int.reduceToNat, Try.f67, hAe, enc_node]
    intro bb hbb
    cases bb
    · simp -implicitDefEqProofs only [go_sem, ↓reduceIte, Nat.reduceEqDiff, Nat.reduceLT, Nat.reduceLeDiff, Nat.reduceAdd, Nat.reduceMul, Nat.reduceSub, reduceCtorEq, Nat.reduceMod, Nat.reduceBEq, Int.reduceBEq, Int.reduceBNe, Int.reduceToNat]
      rw [← hAe]
      refine hsp _ _ ?_
      simp -implicitDefEqProofs only [go_sem, ↓reduceIte, Nat.reduceEqDiff, Nat.reduceLT, Nat.reduceLeDiff, Nat.reduceAdd, Nat.reduceMul, Nat.reduceSub, reduceCtorEq, Nat.reduceMod, Nat.reduceBEq, Int.reduceBEq, Int.reduceBNe, Int.reduceToNat]
      refine vwp_draw (by decide +kernel) ?_
      simp -implicitDefEqProofs only [go_sem, ↓reduceIte, Nat.reduceEqDiff, Nat.reduceLT, Nat.reduceLeDiff, Nat.reduceAdd, Nat.reduceMul, Nat.reduceSub, reduceCtorEq, Nat.reduceMod, Nat.reduceBEq, Int.reduceBEq, Int.reduceBNe, Int.reduceToNat]
      refine q_call _ (by simp -implicitDefEqProofs only [go_sem, ↓reduceIte, Nat.reduceEqDiff, Nat.reduceLT, Nat.reduceLeDiff, Nat.reduceAdd, Nat.reduceMul, Nat.reduceSub, reduceCtorEq, Nat.reduceMod, Nat.reduceBEq, Int.reduceBEq, Int.reduceBNe, Int.reduceToNat]; exact p1 _) (by decide) rfl ?_
      simp -implicitDefEqProofs only [go_sem, ↓reduceIte, Nat.reduceEqDiff, Nat.reduceLT, Nat.reduceLeDiff, Nat.reduceAdd, Nat.reduceMul, Nat.reduceSub, reduceCtorEq, Nat.reduceMod, Nat.reduceBEq, Int.reduceBEq, Int.reduceBNe, Int.reduceToNat]
      refine q_call _ (by simp -implicitDefEqProofs only [go_sem, ↓reduceIte, Nat.reduceEqDiff, Nat.reduceLT, Nat.reduceLeDiff, Nat.reduceAdd, Nat.reduceMul, Nat.reduceSub, reduceCtorEq, Nat.reduceMod, Nat.reduceBEq, Int.reduceBEq, Int.reduceBNe, Int.reduceToNat]; exact p2 _) (by decide) rfl ?_
      try simp -implicitDefEqProofs only [go_sem, ↓reduceIte, Nat.reduceEqDiff, Nat.reduceLT, Nat.reduceLeDiff, Nat.reduceAdd, Nat.reduceMul, Nat.reduceSub, reduceCtorEq, Nat.reduceMod, Nat.reduceBEq, Int.reduceBEq, Int.reduceBNe, Int.reduceToNat]
      refine q_call _ (by simp -implicitDefEqProofs only [go_sem, ↓reduceIte, Nat.reduceEqDiff, Nat.reduceLT, Nat.reduceLeDiff, Nat.reduceAdd, Nat.reduceMul, Nat.reduceSub, reduceCtorEq, Nat.reduceMod, Nat.reduceBEq, Int.reduceBEq, Int.reduceBNe, Int.reduceToNat]; exact j4 _) (by decide) rfl ?_
      simp -implicitDefEqProofs only [go_sem, ↓reduceIte, Nat.reduceEqDiff, Nat.reduceLT, Nat.reduceLeDiff, Nat.reduceAdd, Nat.reduceMul, Nat.reduceSub, reduceCtorEq, Nat.reduceMod, Nat.reduceBEq, Int.reduceBEq, Int.reduceBNe, Int.reduceToNat]
      exact ⟨S, fun _ _ h => h, hK⟩
    · have he : a = .node k v bl br bd bs := alike_eq _ _ (by rw [hAe, enc_node]; exact hbb rfl)
      rw [hself he, hAe] at hK
      exact ⟨S, fun _ _ h => h, hK⟩

theorem bn1 : (true != false) = true := rfl
theorem bn2 : (false != false) = false := rfl
theorem un_one {q r : Nat} {c : List PV} {p : PV} : ∀ (k : Nat) (a b : PV), [PV.nq q r c, p][k]? = some a → [PV.np c, p][k]? = some b → Un a b
  | 0, a, b, h1, h2 => by
    simp at h1 h2
    subst h1; subst h2
    exact .nq _ _ _
  | 1, a, b, h1, h2 => by
    simp at h1 h2
    subst h1; subst h2
    exact .refl _
  | k + 2, a, b, h1, _ => by simp at h1

theorem minus_spec : ∀ (b a : T), Ok a → Ok b → Sorted a.list → Sorted b.list → a.list.length + b.list.length ≤ 400000 →
    ∃ r, Ok r ∧ r.list = minusL a.list b.list ∧ ∀ S, PRet Try.prog 70 [enc a, enc b] S (enc r)
  | .nil, .nil, _, _, _, _, _ => by
    refine ⟨.nil, trivial, rfl, fun S K hK => ?_⟩
    refine pcalls_of (C := C) (fun _ => false) (fun _ => false) Try.func70 rfl rfl (by simp [Try.f70]) ?_
    simp -implicitDefEqProofs only [go_sem, ↓reduceIte, Nat.reduceEqDiff, Nat.reduceLT, Nat.reduceLeDiff, Nat.reduceAdd, Nat.reduceMul, Nat.reduceSub, reduceCtorEq, Nat.reduceMod, Nat.reduceBEq, Int.reduceBEq, Int.reduceBNe, Int.reduceToNat, Try.f70, enc_nil]
    exact ⟨S, fun _ _ h => h, hK⟩
  | .node k v bl br bd bs, .nil, _, _, _, _, _ => by
    refine ⟨.nil, trivial, rfl, fun S K hK => ?_⟩
    refine pcalls_of (C := C) (fun _ => false) (fun _ => false) Try.func70 rfl rfl (by simp [Try.f70]) ?_
    simp -implicitDefEqProofs only [go_sem, ↓reduceIte, Nat.reduceEqDiff, Nat.reduceLT, Nat.reduceLeDiff, Nat.reduceAdd, Nat.reduceMul, Nat.reduceSub, reduceCtorEq, Nat.reduceMod, Nat.reduceBEq, Int.reduceBEq, Int.reduceBNe, Int.reduceToNat, Try.f70, enc_nil, enc_node]
    exact ⟨S, fun _ _ h => h, hK⟩
  | .nil, .node ak av al ar ad sz, ha, _, _, _, _ => by
    refine ⟨.node ak av al ar ad sz, ha, (minusL_nil _).symm, fun S K hK => ?_⟩
    refine pcalls_of (C := C) (fun _ => false) (fun _ => false) Try.func70 rfl rfl (by simp [Try.f70]) ?_
    simp -implicitDefEqProofs only [go_sem, ↓reduceIte, Nat.reduceEqDiff, Nat.reduceLT, Nat.reduceLeDiff, Nat.reduceAdd, Nat.reduceMul, Nat.reduceSub, reduceCtorEq, Nat.reduceMod, Nat.reduceBEq, Int.reduceBEq, Int.reduceBNe, Int.reduceToNat, Try.f70, enc_nil, enc_node]
    exact ⟨S, fun _ _ h => h, hK⟩
  | .node k v bl br bd bs, .node ak av al ar ad sz, ha, hb, sa, sb, hn => by
    have sb0 := sb
    obtain ⟨hbl, hbr, _, _, hd1, hd2⟩ := hb
    simp only [T.list] at sb
    have hnb : (T.node k v bl br bd bs).list.length = bl.list.length + (br.list.length + 1) := by simp only [T.list, List.length_append, List.length_cons]
    obtain ⟨sl, sr, _, _⟩ := sorted_mid sb
    obtain ⟨x, y, c, ox, oy, lx, ly, _, hsame, hsp⟩ := split_spec k (.node ak av al ar ad sz) ha sa (by omega)
    generalize hA : T.node ak av al ar ad sz = a at ha sa hn lx ly hsame hsp ⊢
    have l1 := below_len k a.list
    have l2 := above_len k a.list
    have htw := two_len k a.list
    obtain ⟨r1, o1, e1, p1⟩ := minus_spec bl x ox hbl (by rw [lx]; exact sorted_below sa k) sl (by rw [lx]; omega)
    obtain ⟨r2, o2, e2, p2⟩ := minus_spec br y oy hbr (by rw [ly]; exact sorted_above sa k) sr (by rw [ly]; omega)
    have u1 := minusL_len (below k a.list) bl.list
    have u2 := minusL_len (above k a.list) br.list
    rw [lx] at e1
    rw [ly] at e2
    obtain ⟨r, j1, j2, j4⟩ := glue_spec o1 o2 (by rw [e1, e2]; omega)
    have hrl : r.list = minusL a.list (T.node k v bl br bd bs).list := by rw [j2, e1, e2, T.list]; exact minus_mid sa sb
    refine ⟨r, j1, hrl, fun S K hK => ?_⟩
    have hAe : enc a = .np [.str ak, .str av, enc al, enc ar, .int .i64 ad, .int .i64 sz] := by rw [← hA]; rfl
    rw [hAe, enc_node]
    refine PCalls.named2 fun q0 r0 q1 r1' hal => ?_
    refine pcalls_of (C := C) (fun _ => false) (fun _ => false) Try.func70 rfl rfl (by simp [Try.f70]) ?_
    by_cases he : q0 = q1 ∧ r0 = r1'
    · have hd : decide (q0 = q1 ∧ r0 = r1') = true := decide_eq_true he
      have hab : a = .node k v bl br bd bs := alike_eq _ _ (by rw [hAe, enc_node]; exact hal he)
      have hrn : r = .nil := list_nil (by rw [hrl, ← hab, minusL_self sa])
      rw [hrn] at hK
      simp -implicitDefEqProofs only [go_sem, ↓reduceIte, Nat.reduceEqDiff, Nat.reduceLT, Nat.reduceLeDiff, Nat.reduceAdd, Nat.reduceMul, Nat.reduceSub, reduceCtorEq, Nat.reduceMod, Nat.reduceBEq, Int.reduceBEq, Int.reduceBNe, Int.reduceToNat, Try.f70, hd, bn1, bn2]
      exact ⟨S, fun _ _ h => h, hK⟩
    · have hd : decide (q0 = q1 ∧ r0 = r1') = false := decide_eq_false he
      simp -implicitDefEqProofs only [go_sem, ↓reduceIte, Nat.reduceEqDiff, Nat.reduceLT, Nat.reduceLeDiff, Nat.reduceAdd, Nat.reduceMul, Nat.reduceSub, reduceCtorEq, Nat.reduceMod, Nat.reduceBEq, Int.reduceBEq, Int.reduceBNe, Int.reduceToNat, Try.f70, hd, bn1, bn2]
      refine PCalls.un (args' := [.np [.str ak, .str av, enc al, enc ar, .int .i64 ad, .int .i64 sz], .str k]) rfl un_one ?_
      rw [← hAe]
      refine hsp _ _ ?_
      simp -implicitDefEqProofs only [go_sem, ↓reduceIte, Nat.reduceEqDiff, Nat.reduceLT, Nat.reduceLeDiff, Nat.reduceAdd, Nat.reduceMul, Nat.reduceSub, reduceCtorEq, Nat.reduceMod, Nat.reduceBEq, Int.reduceBEq, Int.reduceBNe, Int.reduceToNat]
      refine vwp_draw (by decide +kernel) ?_
      simp -implicitDefEqProofs only [go_sem, ↓reduceIte, Nat.reduceEqDiff, Nat.reduceLT, Nat.reduceLeDiff, Nat.reduceAdd, Nat.reduceMul, Nat.reduceSub, reduceCtorEq, Nat.reduceMod, Nat.reduceBEq, Int.reduceBEq, Int.reduceBNe, Int.reduceToNat]
      refine q_call _ (by simp -implicitDefEqProofs only [go_sem, ↓reduceIte, Nat.reduceEqDiff, Nat.reduceLT, Nat.reduceLeDiff, Nat.reduceAdd, Nat.reduceMul, Nat.reduceSub, reduceCtorEq, Nat.reduceMod, Nat.reduceBEq, Int.reduceBEq, Int.reduceBNe, Int.reduceToNat]; exact p1 _) (by decide) rfl ?_
      simp -implicitDefEqProofs only [go_sem, ↓reduceIte, Nat.reduceEqDiff, Nat.reduceLT, Nat.reduceLeDiff, Nat.reduceAdd, Nat.reduceMul, Nat.reduceSub, reduceCtorEq, Nat.reduceMod, Nat.reduceBEq, Int.reduceBEq, Int.reduceBNe, Int.reduceToNat]
      refine q_call _ (by simp -implicitDefEqProofs only [go_sem, ↓reduceIte, Nat.reduceEqDiff, Nat.reduceLT, Nat.reduceLeDiff, Nat.reduceAdd, Nat.reduceMul, Nat.reduceSub, reduceCtorEq, Nat.reduceMod, Nat.reduceBEq, Int.reduceBEq, Int.reduceBNe, Int.reduceToNat]; exact p2 _) (by decide) rfl ?_
      try simp -implicitDefEqProofs only [go_sem, ↓reduceIte, Nat.reduceEqDiff, Nat.reduceLT, Nat.reduceLeDiff, Nat.reduceAdd, Nat.reduceMul, Nat.reduceSub, reduceCtorEq, Nat.reduceMod, Nat.reduceBEq, Int.reduceBEq, Int.reduceBNe, Int.reduceToNat]
      refine q_call _ (by simp -implicitDefEqProofs only [go_sem, ↓reduceIte, Nat.reduceEqDiff, Nat.reduceLT, Nat.reduceLeDiff, Nat.reduceAdd, Nat.reduceMul, Nat.reduceSub, reduceCtorEq, Nat.reduceMod, Nat.reduceBEq, Int.reduceBEq, Int.reduceBNe, Int.reduceToNat]; exact j4 _) (by decide) rfl ?_
      simp -implicitDefEqProofs only [go_sem, ↓reduceIte, Nat.reduceEqDiff, Nat.reduceLT, Nat.reduceLeDiff, Nat.reduceAdd, Nat.reduceMul, Nat.reduceSub, reduceCtorEq, Nat.reduceMod, Nat.reduceBEq, Int.reduceBEq, Int.reduceBNe, Int.reduceToNat]
      exact ⟨S, fun _ _ h => h, hK⟩

theorem both_spec : ∀ (b a : T), Ok a → Ok b → Sorted a.list → Sorted b.list → a.list.length + b.list.length ≤ 400000 →
    ∃ r, Ok r ∧ r.list = bothL a.list b.list ∧ (a = b → r = a) ∧ ∀ S, PRet Try.prog 68 [enc a, enc b] S (enc r)
  | .nil, .nil, _, _, _, _, _ => by
    refine ⟨.nil, trivial, rfl, fun _ => rfl, fun S K hK => ?_⟩
    refine pcalls_of (C := C) (fun _ => false) (fun _ => false) Try.func68 rfl rfl (by simp [Try.f68]) ?_
    simp -implicitDefEqProofs only [go_sem, ↓reduceIte, Nat.reduceEqDiff, Nat.reduceLT, Nat.reduceLeDiff, Nat.reduceAdd, Nat.reduceMul, Nat.reduceSub, reduceCtorEq, Nat.reduceMod, Nat.reduceBEq, Int.reduceBEq, Int.reduceBNe, Int.reduceToNat, Try.f68, enc_nil]
    exact ⟨S, fun _ _ h => h, hK⟩
  | .node k v bl br bd bs, .nil, _, _, _, _, _ => by
    refine ⟨.nil, trivial, rfl, fun _ => rfl, fun S K hK => ?_⟩
    refine pcalls_of (C := C) (fun _ => false) (fun _ => false) Try.func68 rfl rfl (by simp [Try.f68]) ?_
    simp -implicitDefEqProofs only [go_sem, ↓reduceIte, Nat.reduceEqDiff, Nat.reduceLT, Nat.reduceLeDiff, Nat.reduceAdd, Nat.reduceMul, Nat.reduceSub, reduceCtorEq, Nat.reduceMod, Nat.reduceBEq, Int.reduceBEq, Int.reduceBNe, Int.reduceToNat, Try.f68, enc_nil, enc_node]
    exact ⟨S, fun _ _ h => h, hK⟩
  | .nil, .node ak av al ar ad sz, ha, _, _, _, _ => by
    refine ⟨.nil, trivial, ?_, ?_, fun S K hK => ?_⟩
    · exact (bothL_nil _).symm
    · intro h; cases h
    refine pcalls_of (C := C) (fun _ => false) (fun _ => false) Try.func68 rfl rfl (by simp [Try.f68]) ?_
    simp -implicitDefEqProofs only [go_sem, ↓reduceIte, Nat.reduceEqDiff, Nat.reduceLT, Nat.reduceLeDiff, Nat.reduceAdd, Nat.reduceMul, Nat.reduceSub, reduceCtorEq, Nat.reduceMod, Nat.reduceBEq, Int.reduceBEq, Int.reduceBNe, Int.reduceToNat, Try.f68, enc_nil, enc_node]
    exact ⟨S, fun _ _ h => h, hK⟩
  | .node k v bl br bd bs, .node ak av al ar ad sz, ha, hb, sa, sb, hn => by
    have sb0 := sb
    have hb0 := hb
    obtain ⟨hbl, hbr, _, _, hd1, hd2⟩ := hb
    simp only [T.list] at sb
    have hnb : (T.node k v bl br bd bs).list.length = bl.list.length + (br.list.length + 1) := by simp only [T.list, List.length_append, List.length_cons]
    obtain ⟨sl, sr, _, _⟩ := sorted_mid sb
    obtain ⟨x, y, c, ox, oy, lx, ly, hat, hsame, hsp⟩ := split_spec k (.node ak av al ar ad sz) ha sa (by omega)
    generalize hA : T.node ak av al ar ad sz = a at ha sa hn lx ly hat hsame hsp ⊢
    have l1 := below_len k a.list
    have l2 := above_len k a.list
    have htw := two_len k a.list
    obtain ⟨r1, o1, e1, q1, p1⟩ := both_spec bl x ox hbl (by rw [lx]; exact sorted_below sa k) sl (by rw [lx]; omega)
    obtain ⟨r2, o2, e2, q2, p2⟩ := both_spec br y oy hbr (by rw [ly]; exact sorted_above sa k) sr (by rw [ly]; omega)
    have u1 := bothL_len (below k a.list) bl.list
    have u2 := bothL_len (above k a.list) br.list
    rw [lx] at e1
    rw [ly] at e2
    have hAe : enc a = .np [.str ak, .str av, enc al, enc ar, .int .i64 ad, .int .i64 sz] := by rw [← hA]; rfl
    have hbm := both_mid (v := v) sa sb
    unfold At at hat
    cases hlk : look k a.list with
    | none =>
      rw [hlk] at hat hbm
      dsimp only at hat
      subst hat
      obtain ⟨r, j1, j2, j4⟩ := glue_spec o1 o2 (by rw [e1, e2]; omega)
      have hrl : r.list = bothL a.list (T.node k v bl br bd bs).list := by rw [j2, e1, e2, T.list, hbm]; simp
      have hself : a = .node k v bl br bd bs → r = a := fun h => by
        rw [h, T.list, (mid_at sb).2.2] at hlk
        cases hlk
      refine ⟨r, j1, hrl, hself, fun S K hK => ?_⟩
      rw [hAe, enc_node]
      refine PCalls.named2 fun q0 r0 q1 r1' hal => ?_
      have hne : ¬ (q0 = q1 ∧ r0 = r1') := fun he => by
        have hab : a = .node k v bl br bd bs := alike_eq _ _ (by rw [hAe, enc_node]; exact hal he)
        rw [hab, T.list, (mid_at sb).2.2] at hlk
        cases hlk
      have hd : decide (q0 = q1 ∧ r0 = r1') = false := decide_eq_false hne
      refine pcalls_of (C := C) (fun _ => false) (fun _ => false) Try.func68 rfl rfl (by simp [Try.f68]) ?_
      simp -implicitDefEqProofs only [go_sem, ↓reduceIte, Nat.reduceEqDiff, Nat.reduceLT, Nat.reduceLeDiff, Nat.reduceAdd, Nat.reduceMul, Nat.reduceSub, reduceCtorEq, Nat.reduceMod, Nat.reduceBEq, Int.reduceBEq, Int.reduceBNe, Int.reduceToNat, Try.f68, hd, bn1, bn2]
      refine PCalls.un (args' := [.np [.str ak, .str av, enc al, enc ar, .int .i64 ad, .int .i64 sz], .str k]) rfl un_one ?_
      rw [← hAe]
      refine hsp _ _ ?_
      simp -implicitDefEqProofs only [go_sem, ↓reduceIte, Nat.reduceEqDiff, Nat.reduceLT, Nat.reduceLeDiff, Nat.reduceAdd, Nat.reduceMul, Nat.reduceSub, reduceCtorEq, Nat.reduceMod, Nat.reduceBEq, Int.reduceBEq, Int.reduceBNe, Int.reduceToNat, enc_nil]
      refine vwp_draw (by decide +kernel) ?_
      simp -implicitDefEqProofs only [go_sem, ↓reduceIte, Nat.reduceEqDiff, Nat.reduceLT, Nat.reduceLeDiff, Nat.reduceAdd, Nat.reduceMul, Nat.reduceSub, reduceCtorEq, Nat.reduceMod, Nat.reduceBEq, Int.reduceBEq, Int.reduceBNe, Int.reduceToNat]
      refine q_call _ (by simp -implicitDefEqProofs only [go_sem, ↓reduceIte, Nat.reduceEqDiff, Nat.reduceLT, Nat.reduceLeDiff, Nat.reduceAdd, Nat.reduceMul, Nat.reduceSub, reduceCtorEq, Nat.reduceMod, Nat.reduceBEq, Int.reduceBEq, Int.reduceBNe, Int.reduceToNat]; exact p1 _) (by decide) rfl ?_
      simp -implicitDefEqProofs only [go_sem, ↓reduceIte, Nat.reduceEqDiff, Nat.reduceLT, Nat.reduceLeDiff, Nat.reduceAdd, Nat.reduceMul, Nat.reduceSub, reduceCtorEq, Nat.reduceMod, Nat.reduceBEq, Int.reduceBEq, Int.reduceBNe, Int.reduceToNat]
      refine q_call _ (by simp -implicitDefEqProofs only [go_sem, ↓reduceIte, Nat.reduceEqDiff, Nat.reduceLT, Nat.reduceLeDiff, Nat.reduceAdd, Nat.reduceMul, Nat.reduceSub, reduceCtorEq, Nat.reduceMod, Nat.reduceBEq, Int.reduceBEq, Int.reduceBNe, Int.reduceToNat]; exact p2 _) (by decide) rfl ?_
      simp -implicitDefEqProofs only [go_sem, ↓reduceIte, Nat.reduceEqDiff, Nat.reduceLT, Nat.reduceLeDiff, Nat.reduceAdd, Nat.reduceMul, Nat.reduceSub, reduceCtorEq, Nat.reduceMod, Nat.reduceBEq, Int.reduceBEq, Int.reduceBNe, Int.reduceToNat]
      refine j4 _ _ ?_
      simp -implicitDefEqProofs only [go_sem, ↓reduceIte, Nat.reduceEqDiff, Nat.reduceLT, Nat.reduceLeDiff, Nat.reduceAdd, Nat.reduceMul, Nat.reduceSub, reduceCtorEq, Nat.reduceMod, Nat.reduceBEq, Int.reduceBEq, Int.reduceBNe, Int.reduceToNat]
      exact ⟨S, fun _ _ h => h, hK⟩
    | some w =>
      rw [hlk] at hat hbm
      dsimp only at hat hbm
      obtain ⟨cl, cr, cd, cs, rfl⟩ := hat
      obtain ⟨r, j1, j2, j3, j4⟩ := join_spec o1 o2 k w (by rw [e1, e2]; omega)
      have hrl : r.list = bothL a.list (T.node k v bl br bd bs).list := by rw [j2, e1, e2, T.list, hbm]; simp
      have hself : a = .node k v bl br bd bs → r = a := fun h => by
        obtain ⟨f1, f2, f3⟩ := hsame k v bl br bd bs h rfl
        have g1 := q1 f1
        have g2 := q2 f2
        rw [f1] at g1
        rw [f2] at g2
        subst g1
        subst g2
        rw [h] at f3
        cases f3
        rw [j3 hd1 hd2, over_eq hb0, h]
      refine ⟨r, j1, hrl, hself, fun S K hK => ?_⟩
      rw [hAe, enc_node]
      refine PCalls.named2 fun q0 r0 q1 r1' hal => ?_
      refine PCalls.unRes (K0 := fun v S' => ∃ v', Un v v' ∧ K v' S') ?_ (fun _ _ h => h)
      refine pcalls_of (C := C) (fun _ => false) (fun _ => false) Try.func68 rfl rfl (by simp [Try.f68]) ?_
      by_cases he : q0 = q1 ∧ r0 = r1'
      · have hd : decide (q0 = q1 ∧ r0 = r1') = true := decide_eq_true he
        have hab : a = .node k v bl br bd bs := alike_eq _ _ (by rw [hAe, enc_node]; exact hal he)
        rw [hself hab, hAe] at hK
        simp -implicitDefEqProofs only [go_sem, ↓reduceIte, Nat.reduceEqDiff, Nat.reduceLT, Nat.reduceLeDiff, Nat.reduceAdd, Nat.reduceMul, Nat.reduceSub, reduceCtorEq, Nat.reduceMod, Nat.reduceBEq, Int.reduceBEq, Int.reduceBNe, Int.reduceToNat, Try.f68, hd, bn1, bn2]
        exact ⟨S, fun _ _ h => h, _, .nq _ _ _, hK⟩
      · have hd : decide (q0 = q1 ∧ r0 = r1') = false := decide_eq_false he
        simp -implicitDefEqProofs only [go_sem, ↓reduceIte, Nat.reduceEqDiff, Nat.reduceLT, Nat.reduceLeDiff, Nat.reduceAdd, Nat.reduceMul, Nat.reduceSub, reduceCtorEq, Nat.reduceMod, Nat.reduceBEq, Int.reduceBEq, Int.reduceBNe, Int.reduceToNat, Try.f68, hd, bn1, bn2]
        refine PCalls.un (args' := [.np [.str ak, .str av, enc al, enc ar, .int .i64 ad, .int .i64 sz], .str k]) rfl un_one ?_
        rw [← hAe]
        refine hsp _ _ ?_
        simp -implicitDefEqProofs only [go_sem, ↓reduceIte, Nat.reduceEqDiff, Nat.reduceLT, Nat.reduceLeDiff, Nat.reduceAdd, Nat.reduceMul, Nat.reduceSub, reduceCtorEq, Nat.reduceMod, Nat.reduceBEq, Int.reduceBEq, Int.reduceBNe, Int.reduceToNat, enc_node]
        refine vwp_draw (by decide +kernel) ?_
        simp -implicitDefEqProofs only [go_sem, ↓reduceIte, Nat.reduceEqDiff, Nat.reduceLT, Nat.reduceLeDiff, Nat.reduceAdd, Nat.reduceMul, Nat.reduceSub, reduceCtorEq, Nat.reduceMod, Nat.reduceBEq, Int.reduceBEq, Int.reduceBNe, Int.reduceToNat]
        refine q_call _ (by simp -implicitDefEqProofs only [go_sem, ↓reduceIte, Nat.reduceEqDiff, Nat.reduceLT, Nat.reduceLeDiff, Nat.reduceAdd, Nat.reduceMul, Nat.reduceSub, reduceCtorEq, Nat.reduceMod, Nat.reduceBEq, Int.reduceBEq, Int.reduceBNe, Int.reduceToNat]; exact p1 _) (by decide) rfl ?_
        simp -implicitDefEqProofs only [go_sem, ↓reduceIte, Nat.reduceEqDiff, Nat.reduceLT, Nat.reduceLeDiff, Nat.reduceAdd, Nat.reduceMul, Nat.reduceSub, reduceCtorEq, Nat.reduceMod, Nat.reduceBEq, Int.reduceBEq, Int.reduceBNe, Int.reduceToNat]
        refine q_call _ (by simp -implicitDefEqProofs only [go_sem, ↓reduceIte, Nat.reduceEqDiff, Nat.reduceLT, Nat.reduceLeDiff, Nat.reduceAdd, Nat.reduceMul, Nat.reduceSub, reduceCtorEq, Nat.reduceMod, Nat.reduceBEq, Int.reduceBEq, Int.reduceBNe, Int.reduceToNat]; exact p2 _) (by decide) rfl ?_
        simp -implicitDefEqProofs only [go_sem, ↓reduceIte, Nat.reduceEqDiff, Nat.reduceLT, Nat.reduceLeDiff, Nat.reduceAdd, Nat.reduceMul, Nat.reduceSub, reduceCtorEq, Nat.reduceMod, Nat.reduceBEq, Int.reduceBEq, Int.reduceBNe, Int.reduceToNat]
        refine j4 _ _ ?_
        simp -implicitDefEqProofs only [go_sem, ↓reduceIte, Nat.reduceEqDiff, Nat.reduceLT, Nat.reduceLeDiff, Nat.reduceAdd, Nat.reduceMul, Nat.reduceSub, reduceCtorEq, Nat.reduceMod, Nat.reduceBEq, Int.reduceBEq, Int.reduceBNe, Int.reduceToNat]
        exact ⟨S, fun _ _ h => h, _, .refl _, hK⟩
end Go.Proofs.Ytmedhhjbknnfkaa.V
