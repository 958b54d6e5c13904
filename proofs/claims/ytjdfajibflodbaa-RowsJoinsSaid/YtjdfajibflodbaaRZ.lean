/- Rows: the term at any index, and the rows from it on. -/
import Derived.Test.YtjdfajibflodbaaRY
set_option linter.unusedVariables false
set_option linter.unusedSimpArgs false
namespace Go.Proofs.Ytjdfajibflodbaa.V
open Go Go.VL

theorem from_eq {l : Lg} (hc : chk l = true) (x most : Int) : (l.rows.filter fun e => decide (x ≤ e.i) && decide (l.i < x)).take most.toNat = fromF l x most := by
  obtain ⟨c1, c2, c3, c4, hr⟩ := chk_iff hc
  have hlast := lastF_i _ _ _ hr
  unfold fromF
  by_cases b1 : l.i < x
  · have hf : (l.rows.filter fun e => decide (x ≤ e.i) && decide (l.i < x)) = l.rows.drop (x - l.i - 1).toNat := by
      have := filter_drop hc (x := x - 1) (by omega)
      rw [show (x - 1 - l.i).toNat = (x - l.i - 1).toNat by omega] at this
      rw [← this]
      congr 1
      funext e
      have : (x ≤ e.i) ↔ (x - 1 < e.i) := by omega
      simp [b1, this]
    rw [hf]
    by_cases b2 : x ≤ (lastF l.i l.t l.rows).1
    · by_cases b3 : 1 ≤ most
      · rw [if_pos (by simp [hc, b1, b2, b3])]
      · rw [if_neg (by simp [hc, b1, b2, b3])]
        rw [show most.toNat = 0 by omega]
        rfl
    · rw [if_neg (by simp [hc, b1, b2])]
      rw [List.drop_of_length_le (by omega)]
      simp
  · rw [if_neg (by simp [hc, b1])]
    have : (l.rows.filter fun e => decide (x ≤ e.i) && decide (l.i < x)) = [] := by
      rw [List.filter_eq_nil_iff]
      intro e _
      simp [b1]
    rw [this]
    simp

theorem refFrom_spec (l : Lg) (x most : Int) (hc : chk l = true) (hl : l.rows.length ≤ 100000) (S : Store) : PRet Try.prog 31 [encG l, .int .i64 x, .int .i64 most] S (.sl .tail 3 (encL (fromF l x most))) := by
  intro K hK
  refine pcalls_of (C := C) (fun d => d == 33 || d == 7 || d == 38 || d == 6) (fun _ => false) Try.func31 rfl rfl (by simp [Try.f31]) ?_
  simp -implicitDefEqProofs only [go_sem, ↓reduceIte, Nat.reduceEqDiff, Nat.reduceLT, Nat.reduceLeDiff, Nat.reduceAdd, Nat.reduceMul, Nat.reduceSub, reduceCtorEq, Nat.reduceMod, Nat.reduceBEq, Int.reduceBEq, Int.reduceBNe, Int.reduceToNat, Try.f31, encG]
  obtain ⟨P, hP⟩ : ∃ P : Ent → Bool, P = fun e => decide (x ≤ e.i) && decide (l.i < x) := ⟨_, rfl⟩
  have hfe := from_eq hc x most
  rw [← hP] at hfe
  rw [← hfe] at hK
  have hPy : ∀ y, P y = (decide (x ≤ y.i) && decide (l.i < x)) := fun y => by rw [hP]
  clear hP hfe
  refine vloop (fun e S' => S' = S ∧ ∃ k : Nat, k ≤ l.rows.length ∧ e 1 = .int .i64 x ∧ e 2 = .int .i64 most ∧ e 3 = .ip [.int .i64 l.i, .int .i64 l.t, .sl .no 3 (encL l.rows)] 0 ∧ e 11 = .sl .no 3 (encL l.rows) ∧ e 12 = .int .i64 l.rows.length ∧ e 13 = .int .i64 k ∧
    e 7 = .sl .tail 3 (encL (((l.rows.take k).filter P).take most.toNat))) (fun e _ => l.rows.length - iv (e 13)) ?_ ?_
  · exact ⟨rfl, 0, Nat.zero_le _, rfl, rfl, rfl, rfl, rfl, rfl, by simp [encL, Env.put]⟩
  · rintro J M Q' hJ hM hQ e S' ⟨rfl, k, hk, e1, e2, e3, e11, e12, e13, e7⟩
    simp -implicitDefEqProofs only [go_sem, ↓reduceIte, Nat.reduceEqDiff, Nat.reduceLT, Nat.reduceLeDiff, Nat.reduceAdd, Nat.reduceMul, Nat.reduceSub, reduceCtorEq, Nat.reduceMod, Nat.reduceBEq, Int.reduceBEq, Int.reduceBNe, Int.reduceToNat, e12, e13]
    by_cases hlt : k < l.rows.length
    · obtain ⟨y, hy⟩ : ∃ y, l.rows[k]? = some y := ⟨_, List.getElem?_eq_getElem hlt⟩
      have hin : (0 : Int) ≤ k ∧ (k : Int) < l.rows.length := by omega
      have hk1 : IntKind.i64.wrap ((k : Int) + 1) = ((k + 1 : Nat) : Int) := wrap64 (by omega) (by omega)
      have hst : (l.rows.take (k + 1)).filter P = (l.rows.take k).filter P ++ (if P y = true then [y] else []) := by
        rw [List.take_add_one, hy, List.filter_append]
        simp only [Option.toList_some, List.filter_cons, List.filter_nil]
      have hfl : ((l.rows.take k).filter P).length ≤ k := Nat.le_trans (List.length_filter_le _ _) (by rw [List.length_take]; omega)
      have hPy := hPy y
      generalize hF : (l.rows.take k).filter P = F at hst hfl e7
      have fin : ∀ e2 : Env, e2 1 = .int .i64 x → e2 2 = .int .i64 most → e2 3 = .ip [.int .i64 l.i, .int .i64 l.t, .sl .no 3 (encL l.rows)] 0 → e2 11 = .sl .no 3 (encL l.rows) → e2 12 = .int .i64 l.rows.length → e2 13 = .int .i64 ((k + 1 : Nat) : Int) →
          (∃ R, e2 7 = .sl .tail 3 (encL R) ∧ R = (F ++ (if P y = true then [y] else [])).take most.toNat) → loopK J M (l.rows.length - iv (e 13)) Q' .normal e2 S' := by
        rintro e2 g1 g2 g3 g11 g12 g13 ⟨R, g7, hR⟩
        refine vnext hJ hM S' (fun _ _ h => h) ⟨rfl, k + 1, hlt, g1, g2, g3, g11, g12, g13, by rw [g7, hR, hst]⟩ ?_
        rw [g13, e13]
        simp only [iv_int, Int.toNat_natCast]
        omega
      rw [e13] at fin
      simp -implicitDefEqProofs only [go_sem, ↓reduceIte, Nat.reduceEqDiff, Nat.reduceLT, Nat.reduceLeDiff, Nat.reduceAdd, Nat.reduceMul, Nat.reduceSub, reduceCtorEq, Nat.reduceMod, Nat.reduceBEq, Int.reduceBEq, Int.reduceBNe, Int.reduceToNat, hin, e1, e2, e3, e7, e11, e12, e13, getD_encL hy, encE]
      by_cases b1 : x ≤ y.i
      · by_cases b2 : l.i < x
        · have hPt : P y = true := by rw [hPy]; simp [b1, b2]
          rw [hPt] at fin
          simp only [if_true] at fin
          by_cases b3 : ((F.take most.toNat).length : Int) < most
          · have hlt2 : F.length < most.toNat := by rw [List.length_take] at b3; omega
            have htk : F.take most.toNat = F := List.take_of_length_le (by omega)
            have hap : (F.length + 1) * 40 ≤ 140737488355328 ∧ F.length + 1 ≤ 140737488355328 := by omega
            rw [htk] at b3
            simp -implicitDefEqProofs only [go_sem, ↓reduceIte, Nat.reduceEqDiff, Nat.reduceLT, Nat.reduceLeDiff, Nat.reduceAdd, Nat.reduceMul, Nat.reduceSub, reduceCtorEq, Nat.reduceMod, Nat.reduceBEq, Int.reduceBEq, Int.reduceBNe, Int.reduceToNat, b1, b2, b3, htk, e1, e2, e3, e7, e13, hap, hk1]
            refine fin _ ?_ ?_ ?_ ?_ ?_ ?_ ⟨F ++ [y], ?_, ?_⟩
            · simp -implicitDefEqProofs only [go_sem, ↓reduceIte, Nat.reduceEqDiff, Nat.reduceLT, Nat.reduceLeDiff, Nat.reduceAdd, Nat.reduceMul, Nat.reduceSub, reduceCtorEq, Nat.reduceMod, Nat.reduceBEq, Int.reduceBEq, Int.reduceBNe, Int.reduceToNat, e1]
            · simp -implicitDefEqProofs only [go_sem, ↓reduceIte, Nat.reduceEqDiff, Nat.reduceLT, Nat.reduceLeDiff, Nat.reduceAdd, Nat.reduceMul, Nat.reduceSub, reduceCtorEq, Nat.reduceMod, Nat.reduceBEq, Int.reduceBEq, Int.reduceBNe, Int.reduceToNat, e2]
            · simp -implicitDefEqProofs only [go_sem, ↓reduceIte, Nat.reduceEqDiff, Nat.reduceLT, Nat.reduceLeDiff, Nat.reduceAdd, Nat.reduceMul, Nat.reduceSub, reduceCtorEq, Nat.reduceMod, Nat.reduceBEq, Int.reduceBEq, Int.reduceBNe, Int.reduceToNat, e3]
            · simp -implicitDefEqProofs only [go_sem, ↓reduceIte, Nat.reduceEqDiff, Nat.reduceLT, Nat.reduceLeDiff, Nat.reduceAdd, Nat.reduceMul, Nat.reduceSub, reduceCtorEq, Nat.reduceMod, Nat.reduceBEq, Int.reduceBEq, Int.reduceBNe, Int.reduceToNat, e11]
            · simp -implicitDefEqProofs only [go_sem, ↓reduceIte, Nat.reduceEqDiff, Nat.reduceLT, Nat.reduceLeDiff, Nat.reduceAdd, Nat.reduceMul, Nat.reduceSub, reduceCtorEq, Nat.reduceMod, Nat.reduceBEq, Int.reduceBEq, Int.reduceBNe, Int.reduceToNat, e12]
            · simp -implicitDefEqProofs only [go_sem, ↓reduceIte, Nat.reduceEqDiff, Nat.reduceLT, Nat.reduceLeDiff, Nat.reduceAdd, Nat.reduceMul, Nat.reduceSub, reduceCtorEq, Nat.reduceMod, Nat.reduceBEq, Int.reduceBEq, Int.reduceBNe, Int.reduceToNat]
            · simp -implicitDefEqProofs only [go_sem, ↓reduceIte, Nat.reduceEqDiff, Nat.reduceLT, Nat.reduceLeDiff, Nat.reduceAdd, Nat.reduceMul, Nat.reduceSub, reduceCtorEq, Nat.reduceMod, Nat.reduceBEq, Int.reduceBEq, Int.reduceBNe, Int.reduceToNat]
              rw [encL_app]
              rfl
            · rw [List.take_of_length_le (by simp; omega)]
          · simp -implicitDefEqProofs only [go_sem, ↓reduceIte, Nat.reduceEqDiff, Nat.reduceLT, Nat.reduceLeDiff, Nat.reduceAdd, Nat.reduceMul, Nat.reduceSub, reduceCtorEq, Nat.reduceMod, Nat.reduceBEq, Int.reduceBEq, Int.reduceBNe, Int.reduceToNat, b1, b2, b3, e1, e2, e3, e7, e13, hk1]
            refine fin _ ?_ ?_ ?_ ?_ ?_ ?_ ⟨F.take most.toNat, ?_, ?_⟩
            · simp -implicitDefEqProofs only [go_sem, ↓reduceIte, Nat.reduceEqDiff, Nat.reduceLT, Nat.reduceLeDiff, Nat.reduceAdd, Nat.reduceMul, Nat.reduceSub, reduceCtorEq, Nat.reduceMod, Nat.reduceBEq, Int.reduceBEq, Int.reduceBNe, Int.reduceToNat, e1]
            · simp -implicitDefEqProofs only [go_sem, ↓reduceIte, Nat.reduceEqDiff, Nat.reduceLT, Nat.reduceLeDiff, Nat.reduceAdd, Nat.reduceMul, Nat.reduceSub, reduceCtorEq, Nat.reduceMod, Nat.reduceBEq, Int.reduceBEq, Int.reduceBNe, Int.reduceToNat, e2]
            · simp -implicitDefEqProofs only [go_sem, ↓reduceIte, Nat.reduceEqDiff, Nat.reduceLT, Nat.reduceLeDiff, Nat.reduceAdd, Nat.reduceMul, Nat.reduceSub, reduceCtorEq, Nat.reduceMod, Nat.reduceBEq, Int.reduceBEq, Int.reduceBNe, Int.reduceToNat, e3]
            · simp -implicitDefEqProofs only [go_sem, ↓reduceIte, Nat.reduceEqDiff, Nat.reduceLT, Nat.reduceLeDiff, Nat.reduceAdd, Nat.reduceMul, Nat.reduceSub, reduceCtorEq, Nat.reduceMod, Nat.reduceBEq, Int.reduceBEq, Int.reduceBNe, Int.reduceToNat, e11]
            · simp -implicitDefEqProofs only [go_sem, ↓reduceIte, Nat.reduceEqDiff, Nat.reduceLT, Nat.reduceLeDiff, Nat.reduceAdd, Nat.reduceMul, Nat.reduceSub, reduceCtorEq, Nat.reduceMod, Nat.reduceBEq, Int.reduceBEq, Int.reduceBNe, Int.reduceToNat, e12]
            · simp -implicitDefEqProofs only [go_sem, ↓reduceIte, Nat.reduceEqDiff, Nat.reduceLT, Nat.reduceLeDiff, Nat.reduceAdd, Nat.reduceMul, Nat.reduceSub, reduceCtorEq, Nat.reduceMod, Nat.reduceBEq, Int.reduceBEq, Int.reduceBNe, Int.reduceToNat]
            · simp -implicitDefEqProofs only [go_sem, ↓reduceIte, Nat.reduceEqDiff, Nat.reduceLT, Nat.reduceLeDiff, Nat.reduceAdd, Nat.reduceMul, Nat.reduceSub, reduceCtorEq, Nat.reduceMod, Nat.reduceBEq, Int.reduceBEq, Int.reduceBNe, Int.reduceToNat, e7]
            · rw [List.take_append_of_le_length (by rw [List.length_take] at b3; omega)]
        · have hPf : P y = false := by rw [hPy]; simp [b2]
          rw [hPf] at fin
          simp only [Bool.false_eq_true, if_false, List.append_nil] at fin
          simp -implicitDefEqProofs only [go_sem, ↓reduceIte, Nat.reduceEqDiff, Nat.reduceLT, Nat.reduceLeDiff, Nat.reduceAdd, Nat.reduceMul, Nat.reduceSub, reduceCtorEq, Nat.reduceMod, Nat.reduceBEq, Int.reduceBEq, Int.reduceBNe, Int.reduceToNat, b1, b2, e1, e3, e13, hk1]
          refine fin _ ?_ ?_ ?_ ?_ ?_ ?_ ⟨F.take most.toNat, ?_, rfl⟩ <;> simp -implicitDefEqProofs only [go_sem, ↓reduceIte, Nat.reduceEqDiff, Nat.reduceLT, Nat.reduceLeDiff, Nat.reduceAdd, Nat.reduceMul, Nat.reduceSub, reduceCtorEq, Nat.reduceMod, Nat.reduceBEq, Int.reduceBEq, Int.reduceBNe, Int.reduceToNat, e1, e2, e3, e11, e12, e7]
      · have hPf : P y = false := by rw [hPy]; simp [b1]
        rw [hPf] at fin
        simp only [Bool.false_eq_true, if_false, List.append_nil] at fin
        simp -implicitDefEqProofs only [go_sem, ↓reduceIte, Nat.reduceEqDiff, Nat.reduceLT, Nat.reduceLeDiff, Nat.reduceAdd, Nat.reduceMul, Nat.reduceSub, reduceCtorEq, Nat.reduceMod, Nat.reduceBEq, Int.reduceBEq, Int.reduceBNe, Int.reduceToNat, b1, e13, hk1]
        refine fin _ ?_ ?_ ?_ ?_ ?_ ?_ ⟨F.take most.toNat, ?_, rfl⟩ <;> simp -implicitDefEqProofs only [go_sem, ↓reduceIte, Nat.reduceEqDiff, Nat.reduceLT, Nat.reduceLeDiff, Nat.reduceAdd, Nat.reduceMul, Nat.reduceSub, reduceCtorEq, Nat.reduceMod, Nat.reduceBEq, Int.reduceBEq, Int.reduceBNe, Int.reduceToNat, e1, e2, e3, e11, e12, e7]
    · have hcc : ¬ (k : Int) < l.rows.length := by omega
      simp -implicitDefEqProofs only [go_sem, ↓reduceIte, Nat.reduceEqDiff, Nat.reduceLT, Nat.reduceLeDiff, Nat.reduceAdd, Nat.reduceMul, Nat.reduceSub, reduceCtorEq, Nat.reduceMod, Nat.reduceBEq, Int.reduceBEq, Int.reduceBNe, Int.reduceToNat, hcc]
      refine hQ _ _ _ ?_
      simp -implicitDefEqProofs only [go_sem, ↓reduceIte, Nat.reduceEqDiff, Nat.reduceLT, Nat.reduceLeDiff, Nat.reduceAdd, Nat.reduceMul, Nat.reduceSub, reduceCtorEq, Nat.reduceMod, Nat.reduceBEq, Int.reduceBEq, Int.reduceBNe, Int.reduceToNat, e7]
      rw [show l.rows.take k = l.rows from List.take_of_length_le (by omega)]
      exact ⟨S', fun _ _ h => h, hK⟩

theorem mem_splice {cells : List PV} {off : Nat} {v : PV} (h : off < cells.length) : psplice cells off [v] = cells.set off v := by
  unfold psplice
  apply List.ext_getElem?
  intro i
  rw [List.getElem?_set]
  by_cases h1 : i < off
  · rw [List.append_assoc, List.getElem?_append_left (by rw [List.length_take]; omega), List.getElem?_take, if_pos h1, if_neg (by omega)]
  · by_cases h2 : i = off
    · subst h2
      rw [if_pos rfl, if_pos h, List.append_assoc, List.getElem?_append_right (by rw [List.length_take]; omega), List.length_take]
      simp [show i - min i cells.length = 0 by omega]
    · rw [if_neg (by omega), List.getElem?_append_right (by simp; omega), List.getElem?_drop]
      congr 1
      simp
      omega
theorem cellsD_set (d : List Int) (k : Nat) (v : Int) : (cellsD d).set k (.int .u8 v) = cellsD (d.set k v) := by
  simp [cellsD, List.map_set]

theorem cellsD_splice {d : List Int} {k : Nat} (h : k < d.length) (v : Int) : List.take k (cellsD d) ++ [.int .u8 v] ++ List.drop (k + 1) (cellsD d) = cellsD (d.set k v) := by
  have := mem_splice (cells := cellsD d) (off := k) (v := .int .u8 v) (by rw [cellsD_len]; exact h)
  rw [cellsD_set] at this
  exact this

/-- All bytes are there, whatever they are. -/
def Held (S : Store) (ps : List (Nat × Ent)) : Prop := ∀ p ∈ ps, ∃ d : List Int, S p.1 = some (cellsD d) ∧ d.length = p.2.d.length
theorem held_set {S : Store} {ps : List (Nat × Ent)} (h : Held S ps) {i : Nat} {d : List Int} (hd : ∀ p ∈ ps, p.1 = i → d.length = p.2.d.length) : Held (S.set i (some (cellsD d))) ps := by
  intro p hp
  by_cases e : p.1 = i
  · exact ⟨d, by simp [Store.set, e], hd p hp e⟩
  · obtain ⟨d', h1, h2⟩ := h p hp
    exact ⟨d', by simp only [Store.set, if_neg e]; exact h1, h2⟩

theorem fz_encO {S : Store} {ps : List (Nat × Ent)} (h : ∀ p ∈ ps, S p.1 = some (cellsD p.2.d)) : Fz S (.sl .no 3 (encO ps)) (.sl .no 3 (encL (ps.map (·.2)))) := by
  have row : ∀ (j : Nat) (c c' : List PV), (encO ps)[j]? = some c → (encL (ps.map (·.2)))[j]? = some c' → ∃ p ∈ ps, c = [.int .i64 p.2.i, .int .i64 p.2.t, .arr .no p.1 0 p.2.d.length 1] ∧ c' = encE p.2 := by
    intro j c c' h1 h2
    simp only [encO, encL, List.getElem?_map, Option.map_eq_some_iff] at h1 h2
    obtain ⟨p, hp, rfl⟩ := h1
    obtain ⟨e, ⟨q, hq, rfl⟩, rfl⟩ := h2
    rw [hp] at hq
    injection hq with hq
    subst hq
    exact ⟨p, List.mem_of_getElem? hp, rfl, rfl⟩
  refine .sl (by simp [encO, encL]) (fun j c c' h1 h2 => ?_) (fun j c c' k v v' h1 h2 hv hv' => ?_)
  · obtain ⟨p, _, rfl, rfl⟩ := row j c c' h1 h2; rfl
  · obtain ⟨p, hp, rfl, rfl⟩ := row j c c' h1 h2
    rcases k with _ | _ | _ | k
    · simp [encE] at hv hv'; subst hv; subst hv'; exact .refl _
    · simp [encE] at hv hv'; subst hv; subst hv'; exact .refl _
    · simp [encE] at hv hv'
      subst hv; subst hv'
      refine .arr (h p hp) (len_encD _) (fun j c hj => ?_) (fun j k => .int .u8 (p.2.d.getD j 0)) (fun j c k v hj hk => ?_) (fun j c k v hj hk => ?_)
      · simp only [encD, List.getElem?_map, Option.map_eq_some_iff] at hj
        obtain ⟨b, _, rfl⟩ := hj
        rfl
      · simp only [encD, List.getElem?_map, Option.map_eq_some_iff] at hj
        obtain ⟨b, hb, rfl⟩ := hj
        rcases k with _ | k <;> simp at hk
        simp [cellsD, hb, List.getD_eq_getElem?_getD]
      · simp only [encD, List.getElem?_map, Option.map_eq_some_iff] at hj
        obtain ⟨b, hb, rfl⟩ := hj
        rcases k with _ | k <;> simp at hk
        subst hk
        rw [List.getD_eq_getElem?_getD, hb]
        exact .refl _
    · simp [encE] at hv

theorem terms_law (l : Lg) (x most : Int) (hx : InR x) (hm : InR most) (hf : FineL l.rows) (S : Store) : PRet Try.prog 10 [encG l, .int .i64 x, .int .i64 most] S (.bool true) := by
  intro K hK
  refine pcalls_of (C := C) (fun _ => false) (fun d => d == 3) Try.func10 rfl rfl (by simp [Try.f10]) ?_
  simp -implicitDefEqProofs only [go_sem, ↓reduceIte, Nat.reduceEqDiff, Nat.reduceLT, Nat.reduceLeDiff, Nat.reduceAdd, Nat.reduceMul, Nat.reduceSub, reduceCtorEq, Nat.reduceMod, Nat.reduceBEq, Int.reduceBEq, Int.reduceBNe, Int.reduceToNat, Try.f10, encG]
  intro id3 hid
  refine light_spec [l.rows] (by simp) _ _ ?_
  cases h1 : lightF 0 [l.rows]
  · simp -implicitDefEqProofs only [go_sem, ↓reduceIte, Nat.reduceEqDiff, Nat.reduceLT, Nat.reduceLeDiff, Nat.reduceAdd, Nat.reduceMul, Nat.reduceSub, reduceCtorEq, Nat.reduceMod, Nat.reduceBEq, Int.reduceBEq, Int.reduceBNe, Int.reduceToNat, h1]
    refine awake_spec _ _ ?_
    simp -implicitDefEqProofs only [go_sem, ↓reduceIte, Nat.reduceEqDiff, Nat.reduceLT, Nat.reduceLeDiff, Nat.reduceAdd, Nat.reduceMul, Nat.reduceSub, reduceCtorEq, Nat.reduceMod, Nat.reduceBEq, Int.reduceBEq, Int.reduceBNe, Int.reduceToNat]
    exact ⟨S, set_drop hid (fun _ _ h => h), hK⟩
  · have hll : l.rows.length ≤ 200 := light_len _ _ h1 _ (by simp)
    have hfit : Fit l := by unfold Fit; omega
    simp -implicitDefEqProofs only [go_sem, ↓reduceIte, Nat.reduceEqDiff, Nat.reduceLT, Nat.reduceLeDiff, Nat.reduceAdd, Nat.reduceMul, Nat.reduceSub, reduceCtorEq, Nat.reduceMod, Nat.reduceBEq, Int.reduceBEq, Int.reduceBNe, Int.reduceToNat, h1]
    refine both_spec l (by omega) hf _ _ ?_
    simp -implicitDefEqProofs only [go_sem, ↓reduceIte, Nat.reduceEqDiff, Nat.reduceLT, Nat.reduceLeDiff, Nat.reduceAdd, Nat.reduceMul, Nat.reduceSub, reduceCtorEq, Nat.reduceMod, Nat.reduceBEq, Int.reduceBEq, Int.reduceBNe, Int.reduceToNat, encG]
    refine Term_spec l x hx hfit _ _ ?_
    cases hc : chk l
    · simp -implicitDefEqProofs only [go_sem, ↓reduceIte, Nat.reduceEqDiff, Nat.reduceLT, Nat.reduceLeDiff, Nat.reduceAdd, Nat.reduceMul, Nat.reduceSub, reduceCtorEq, Nat.reduceMod, Nat.reduceBEq, Int.reduceBEq, Int.reduceBNe, Int.reduceToNat, hc]
      refine FromO_spec l x most hx hm (by omega) (fun e he => (hf e he).2.2.1) _ _ fun f ps hp1 hp2 hp3 => ?_
      have hps : ps = [] := List.eq_nil_of_length_eq_zero (by
        have := congrArg List.length hp1
        unfold fromF at this
        rw [hc] at this
        simpa using this)
      subst hps
      simp -implicitDefEqProofs only [go_sem, ↓reduceIte, Nat.reduceEqDiff, Nat.reduceLT, Nat.reduceLeDiff, Nat.reduceAdd, Nat.reduceMul, Nat.reduceSub, reduceCtorEq, Nat.reduceMod, Nat.reduceBEq, Int.reduceBEq, Int.reduceBNe, Int.reduceToNat, hc]
      refine awake_spec _ _ ?_
      simp -implicitDefEqProofs only [go_sem, ↓reduceIte, Nat.reduceEqDiff, Nat.reduceLT, Nat.reduceLeDiff, Nat.reduceAdd, Nat.reduceMul, Nat.reduceSub, reduceCtorEq, Nat.reduceMod, Nat.reduceBEq, Int.reduceBEq, Int.reduceBNe, Int.reduceToNat]
      exact ⟨S, set_drop hid (fun _ _ h => h), hK⟩
    · simp -implicitDefEqProofs only [go_sem, ↓reduceIte, Nat.reduceEqDiff, Nat.reduceLT, Nat.reduceLeDiff, Nat.reduceAdd, Nat.reduceMul, Nat.reduceSub, reduceCtorEq, Nat.reduceMod, Nat.reduceBEq, Int.reduceBEq, Int.reduceBNe, Int.reduceToNat, hc]
      refine FromO_spec l x most hx hm (by omega) (fun e he => (hf e he).2.2.1) _ _ fun f ps hp1 hp2 hp3 => ?_
      simp -implicitDefEqProofs only [go_sem, ↓reduceIte, Nat.reduceEqDiff, Nat.reduceLT, Nat.reduceLeDiff, Nat.reduceAdd, Nat.reduceMul, Nat.reduceSub, reduceCtorEq, Nat.reduceMod, Nat.reduceBEq, Int.reduceBEq, Int.reduceBNe, Int.reduceToNat, hc]
      refine refAt_spec l x hc (by omega) _ _ ?_
      simp -implicitDefEqProofs only [go_sem, ↓reduceIte, Nat.reduceEqDiff, Nat.reduceLT, Nat.reduceLeDiff, Nat.reduceAdd, Nat.reduceMul, Nat.reduceSub, reduceCtorEq, Nat.reduceMod, Nat.reduceBEq, Int.reduceBEq, Int.reduceBNe, Int.reduceToNat]
      refine refFrom_spec l x most hc (by omega) _ _ ?_
      simp -implicitDefEqProofs only [go_sem, ↓reduceIte, Nat.reduceEqDiff, Nat.reduceLT, Nat.reduceLeDiff, Nat.reduceAdd, Nat.reduceMul, Nat.reduceSub, reduceCtorEq, Nat.reduceMod, Nat.reduceBEq, Int.reduceBEq, Int.reduceBNe, Int.reduceToNat]
      have hnr : (ps.reverse.map (·.1)).Nodup := by rw [List.map_reverse]; exact List.pairwise_reverse.2 (hp2.imp Ne.symm)
      have hne : ∀ p ∈ ps, p.1 ≠ id3 := fun p hp e => by
        have := hp3 p hp
        rw [e] at this
        simp [Store.set] at this
      have hSn : ∀ p ∈ ps, S p.1 = none := fun p hp => by
        have := hp3 p hp
        simpa [Store.set, hne p hp] using this
      have hheld : ∀ p ∈ ps, SO (S.set id3 (some [.int .i64 l.i, .int .i64 l.t, .sl .no 3 (encL l.rows)])) ps.reverse p.1 = some (cellsD p.2.d) := fun p hp => SO_in hnr (List.mem_reverse.2 hp)
      have hfl : (fromF l x most).length ≤ 100000 := by
        unfold fromF
        split
        · rw [List.length_take, List.length_drop]; omega
        · simp
      refine PRet.borrow (args := [.sl .no 3 (encO ps), .sl .no 3 (encL (fromF l x most))]) (args' := [.sl .no 3 (encL (fromF l x most)), .sl .no 3 (encL (fromF l x most))]) (Same_spec _ _ hfl _) rfl rfl (fun k p q hp hq => ?_) _ ?_
      · rcases k with _ | _ | k
        · simp at hp hq
          subst hp; subst hq
          refine ⟨?_, rfl⟩
          rw [← hp1]
          exact fz_encO hheld
        · simp at hp hq
          subst hp; subst hq
          exact ⟨.refl _, rfl⟩
        · simp at hp
      rw [sameL_refl]
      simp -implicitDefEqProofs only [go_sem, ↓reduceIte, Nat.reduceEqDiff, Nat.reduceLT, Nat.reduceLeDiff, Nat.reduceAdd, Nat.reduceMul, Nat.reduceSub, reduceCtorEq, Nat.reduceMod, Nat.reduceBEq, Int.reduceBEq, Int.reduceBNe, Int.reduceToNat]
      have hin3 : ∀ p ∈ ps.reverse, p.1 ≠ id3 := fun p hp => hne p (List.mem_reverse.1 hp)
      have hpl : ps.length ≤ 100000 := by
        have := congrArg List.length hp1
        rw [List.length_map] at this
        omega
      have hdl : ∀ p ∈ ps, p.2.d.length ≤ 140737488351232 := fun p hp => by
        have hm : p.2 ∈ fromF l x most := by rw [← hp1]; exact List.mem_map.2 ⟨p, hp, rfl⟩
        unfold fromF at hm
        split at hm
        · exact (hf _ (List.mem_of_mem_drop (List.mem_of_mem_take hm))).2.2.1
        · cases hm
      refine vloop (fun e S' => (Held S' ps ∧ S' id3 = some [.int .i64 l.i, .int .i64 l.t, .sl .no 3 (encL l.rows)] ∧ ∀ i c, S i = some c → S' i = some c) ∧ ∃ k : Nat, k ≤ ps.length ∧ e 3 = .ref id3 0 ∧ e 7 = .ip [.int .i64 l.i, .int .i64 l.t, .sl .no 3 (encL l.rows)] 0 ∧ e 11 = .sl .no 3 (encO ps) ∧ e 14 = .bool true ∧ e 78 = .int .i64 ps.length ∧ e 79 = .int .i64 k) (fun e _ => ps.length - iv (e 79)) ?_ ?_
      · refine ⟨⟨fun p hp => ⟨p.2.d, hheld p hp, rfl⟩, ?_, fun i c hi => ?_⟩, 0, Nat.zero_le _, rfl, rfl, rfl, rfl, rfl, rfl⟩
        · rw [SO_out hin3]; simp [Store.set]
        · rw [SO_out (fun p hp e => by have := hSn p (List.mem_reverse.1 hp); rw [e, hi] at this; cases this)]
          simp only [Store.set]
          rw [if_neg (fun e => by rw [e, hid] at hi; cases hi)]
          exact hi
      · rintro J M Q' hJ hM hQ e S' ⟨hinv, k, hk, e3, e7, e11, e14, e78, e79⟩
        simp -implicitDefEqProofs only [go_sem, ↓reduceIte, Nat.reduceEqDiff, Nat.reduceLT, Nat.reduceLeDiff, Nat.reduceAdd, Nat.reduceMul, Nat.reduceSub, reduceCtorEq, Nat.reduceMod, Nat.reduceBEq, Int.reduceBEq, Int.reduceBNe, Int.reduceToNat, e78, e79]
        by_cases hlt : k < ps.length
        · obtain ⟨p, hp⟩ : ∃ p, ps[k]? = some p := ⟨_, List.getElem?_eq_getElem hlt⟩
          have hpm := List.mem_of_getElem? hp
          have hpd := hdl p hpm
          have hin : (0 : Int) ≤ k ∧ (k : Int) < ps.length := by omega
          have hk1 : IntKind.i64.wrap ((k : Int) + 1) = ((k + 1 : Nat) : Int) := wrap64 (by omega) (by omega)
          have hgo : (encO ps).getD k [] = [.int .i64 p.2.i, .int .i64 p.2.t, .arr .no p.1 0 p.2.d.length 1] := by
            simp [encO, List.getD_eq_getElem?_getD, hp]
          simp -implicitDefEqProofs only [go_sem, ↓reduceIte, Nat.reduceEqDiff, Nat.reduceLT, Nat.reduceLeDiff, Nat.reduceAdd, Nat.reduceMul, Nat.reduceSub, reduceCtorEq, Nat.reduceMod, Nat.reduceBEq, Int.reduceBEq, Int.reduceBNe, Int.reduceToNat, hin, e3, e7, e11, e14, e78, e79, hgo]
          refine vloop (fun e S' => (Held S' ps ∧ S' id3 = some [.int .i64 l.i, .int .i64 l.t, .sl .no 3 (encL l.rows)] ∧ ∀ i c, S i = some c → S' i = some c) ∧ ∃ m : Nat, m ≤ p.2.d.length ∧ e 3 = .ref id3 0 ∧ e 7 = .ip [.int .i64 l.i, .int .i64 l.t, .sl .no 3 (encL l.rows)] 0 ∧ e 11 = .sl .no 3 (encO ps) ∧ e 14 = .bool true ∧ e 78 = .int .i64 ps.length ∧ e 79 = .int .i64 k ∧ e 15 = .int .i64 k ∧ e 87 = .int .i64 p.2.d.length ∧ e 88 = .int .i64 m) (fun e _ => p.2.d.length - iv (e 88)) ?_ ?_
          · exact ⟨hinv, 0, Nat.zero_le _, e3, e7, e11, e14, e78, e79, rfl, rfl, rfl⟩
          · rintro J2 M2 Q2 hJ2 hM2 hQ2 e' S2 ⟨hinv2, m, hm2, f3, f7, f11, f14, f78, f79, f15, f87, f88⟩
            simp -implicitDefEqProofs only [go_sem, ↓reduceIte, Nat.reduceEqDiff, Nat.reduceLT, Nat.reduceLeDiff, Nat.reduceAdd, Nat.reduceMul, Nat.reduceSub, reduceCtorEq, Nat.reduceMod, Nat.reduceBEq, Int.reduceBEq, Int.reduceBNe, Int.reduceToNat, f87, f88]
            by_cases hlt2 : m < p.2.d.length
            · obtain ⟨d, hd1, hd2⟩ := hinv2.1 p hpm
              have hinm : (0 : Int) ≤ m ∧ (m : Int) < p.2.d.length := by omega
              have hm1 : IntKind.i64.wrap ((m : Int) + 1) = ((m + 1 : Nat) : Int) := wrap64 (by omega) (by omega)
              obtain ⟨b, hb⟩ : ∃ b, d[m]? = some b := ⟨_, List.getElem?_eq_getElem (by omega)⟩
              have hcm : ((cellsD d).map PV.bare)[m]? = some (.int .u8 b) := by rw [cellsD_bare]; simp [cellsD, hb]
              have hfit2 : m + 1 ≤ (cellsD d).length := by rw [cellsD_len]; omega
              simp -implicitDefEqProofs only [go_sem, ↓reduceIte, Nat.reduceEqDiff, Nat.reduceLT, Nat.reduceLeDiff, Nat.reduceAdd, Nat.reduceMul, Nat.reduceSub, reduceCtorEq, Nat.reduceMod, Nat.reduceBEq, Int.reduceBEq, Int.reduceBNe, Int.reduceToNat, hin, hinm, f3, f7, f11, f15, f88, hgo, Nat.mul_one, hd1, hcm, hm1]
              refine ⟨by omega, ?_⟩
              rw [cellsD_splice (by omega)]
              refine vnext hJ2 hM2 _ (fun _ _ h => h) ⟨⟨held_set hinv2.1 (fun q hq he => ?_), ?_, fun i c hi => ?_⟩, m + 1, hlt2, ?_, ?_, ?_, ?_, ?_, ?_, ?_, ?_, ?_⟩ ?_
              · have hqp : q = p := by
                  obtain ⟨a, ha⟩ := List.mem_iff_getElem?.1 hq
                  have h1 : (ps.map (·.1))[a]? = some q.1 := by rw [List.getElem?_map, ha]; rfl
                  have h2 : (ps.map (·.1))[k]? = some q.1 := by rw [List.getElem?_map, hp, he]; rfl
                  have hak : a = k := (List.getElem?_inj (List.getElem?_eq_some_iff.1 h1).1 hp2).1 (h1.trans h2.symm)
                  subst hak
                  rw [hp] at ha
                  injection ha with ha
                  exact ha.symm
                subst hqp
                rw [List.length_set]
                exact hd2
              · simp only [Store.set]
                rw [if_neg (fun e => hne p hpm e.symm)]
                exact hinv2.2.1
              · simp only [Store.set]
                rw [if_neg (fun e => by have := hSn p hpm; rw [← e, hi] at this; cases this)]
                exact hinv2.2.2 i c hi
              · simp -implicitDefEqProofs only [go_sem, ↓reduceIte, Nat.reduceEqDiff, Nat.reduceLT, Nat.reduceLeDiff, Nat.reduceAdd, Nat.reduceMul, Nat.reduceSub, reduceCtorEq, Nat.reduceMod, Nat.reduceBEq, Int.reduceBEq, Int.reduceBNe, Int.reduceToNat, f3]
              · simp -implicitDefEqProofs only [go_sem, ↓reduceIte, Nat.reduceEqDiff, Nat.reduceLT, Nat.reduceLeDiff, Nat.reduceAdd, Nat.reduceMul, Nat.reduceSub, reduceCtorEq, Nat.reduceMod, Nat.reduceBEq, Int.reduceBEq, Int.reduceBNe, Int.reduceToNat, f7]
              · simp -implicitDefEqProofs only [go_sem, ↓reduceIte, Nat.reduceEqDiff, Nat.reduceLT, Nat.reduceLeDiff, Nat.reduceAdd, Nat.reduceMul, Nat.reduceSub, reduceCtorEq, Nat.reduceMod, Nat.reduceBEq, Int.reduceBEq, Int.reduceBNe, Int.reduceToNat, f11]
              · simp -implicitDefEqProofs only [go_sem, ↓reduceIte, Nat.reduceEqDiff, Nat.reduceLT, Nat.reduceLeDiff, Nat.reduceAdd, Nat.reduceMul, Nat.reduceSub, reduceCtorEq, Nat.reduceMod, Nat.reduceBEq, Int.reduceBEq, Int.reduceBNe, Int.reduceToNat, f14]
              · simp -implicitDefEqProofs only [go_sem, ↓reduceIte, Nat.reduceEqDiff, Nat.reduceLT, Nat.reduceLeDiff, Nat.reduceAdd, Nat.reduceMul, Nat.reduceSub, reduceCtorEq, Nat.reduceMod, Nat.reduceBEq, Int.reduceBEq, Int.reduceBNe, Int.reduceToNat, f78]
              · simp -implicitDefEqProofs only [go_sem, ↓reduceIte, Nat.reduceEqDiff, Nat.reduceLT, Nat.reduceLeDiff, Nat.reduceAdd, Nat.reduceMul, Nat.reduceSub, reduceCtorEq, Nat.reduceMod, Nat.reduceBEq, Int.reduceBEq, Int.reduceBNe, Int.reduceToNat, f79]
              · simp -implicitDefEqProofs only [go_sem, ↓reduceIte, Nat.reduceEqDiff, Nat.reduceLT, Nat.reduceLeDiff, Nat.reduceAdd, Nat.reduceMul, Nat.reduceSub, reduceCtorEq, Nat.reduceMod, Nat.reduceBEq, Int.reduceBEq, Int.reduceBNe, Int.reduceToNat, f15]
              · simp -implicitDefEqProofs only [go_sem, ↓reduceIte, Nat.reduceEqDiff, Nat.reduceLT, Nat.reduceLeDiff, Nat.reduceAdd, Nat.reduceMul, Nat.reduceSub, reduceCtorEq, Nat.reduceMod, Nat.reduceBEq, Int.reduceBEq, Int.reduceBNe, Int.reduceToNat, f87]
              · simp -implicitDefEqProofs only [go_sem, ↓reduceIte, Nat.reduceEqDiff, Nat.reduceLT, Nat.reduceLeDiff, Nat.reduceAdd, Nat.reduceMul, Nat.reduceSub, reduceCtorEq, Nat.reduceMod, Nat.reduceBEq, Int.reduceBEq, Int.reduceBNe, Int.reduceToNat]
              · simp -implicitDefEqProofs only [go_sem, ↓reduceIte, Nat.reduceEqDiff, Nat.reduceLT, Nat.reduceLeDiff, Nat.reduceAdd, Nat.reduceMul, Nat.reduceSub, reduceCtorEq, Nat.reduceMod, Nat.reduceBEq, Int.reduceBEq, Int.reduceBNe, Int.reduceToNat]
                omega
            · have hcc : ¬ (m : Int) < p.2.d.length := by omega
              simp -implicitDefEqProofs only [go_sem, ↓reduceIte, Nat.reduceEqDiff, Nat.reduceLT, Nat.reduceLeDiff, Nat.reduceAdd, Nat.reduceMul, Nat.reduceSub, reduceCtorEq, Nat.reduceMod, Nat.reduceBEq, Int.reduceBEq, Int.reduceBNe, Int.reduceToNat, hcc]
              refine hQ2 _ _ _ ?_
              simp -implicitDefEqProofs only [go_sem, ↓reduceIte, Nat.reduceEqDiff, Nat.reduceLT, Nat.reduceLeDiff, Nat.reduceAdd, Nat.reduceMul, Nat.reduceSub, reduceCtorEq, Nat.reduceMod, Nat.reduceBEq, Int.reduceBEq, Int.reduceBNe, Int.reduceToNat, f79, hk1]
              refine vnext hJ hM S2 (fun _ _ h => h) ⟨hinv2, k + 1, hlt, ?_, ?_, ?_, ?_, ?_, ?_⟩ ?_
              · simp -implicitDefEqProofs only [go_sem, ↓reduceIte, Nat.reduceEqDiff, Nat.reduceLT, Nat.reduceLeDiff, Nat.reduceAdd, Nat.reduceMul, Nat.reduceSub, reduceCtorEq, Nat.reduceMod, Nat.reduceBEq, Int.reduceBEq, Int.reduceBNe, Int.reduceToNat, f3]
              · simp -implicitDefEqProofs only [go_sem, ↓reduceIte, Nat.reduceEqDiff, Nat.reduceLT, Nat.reduceLeDiff, Nat.reduceAdd, Nat.reduceMul, Nat.reduceSub, reduceCtorEq, Nat.reduceMod, Nat.reduceBEq, Int.reduceBEq, Int.reduceBNe, Int.reduceToNat, f7]
              · simp -implicitDefEqProofs only [go_sem, ↓reduceIte, Nat.reduceEqDiff, Nat.reduceLT, Nat.reduceLeDiff, Nat.reduceAdd, Nat.reduceMul, Nat.reduceSub, reduceCtorEq, Nat.reduceMod, Nat.reduceBEq, Int.reduceBEq, Int.reduceBNe, Int.reduceToNat, f11]
              · simp -implicitDefEqProofs only [go_sem, ↓reduceIte, Nat.reduceEqDiff, Nat.reduceLT, Nat.reduceLeDiff, Nat.reduceAdd, Nat.reduceMul, Nat.reduceSub, reduceCtorEq, Nat.reduceMod, Nat.reduceBEq, Int.reduceBEq, Int.reduceBNe, Int.reduceToNat, f14]
              · simp -implicitDefEqProofs only [go_sem, ↓reduceIte, Nat.reduceEqDiff, Nat.reduceLT, Nat.reduceLeDiff, Nat.reduceAdd, Nat.reduceMul, Nat.reduceSub, reduceCtorEq, Nat.reduceMod, Nat.reduceBEq, Int.reduceBEq, Int.reduceBNe, Int.reduceToNat, f78]
              · simp -implicitDefEqProofs only [go_sem, ↓reduceIte, Nat.reduceEqDiff, Nat.reduceLT, Nat.reduceLeDiff, Nat.reduceAdd, Nat.reduceMul, Nat.reduceSub, reduceCtorEq, Nat.reduceMod, Nat.reduceBEq, Int.reduceBEq, Int.reduceBNe, Int.reduceToNat]
              · simp -implicitDefEqProofs only [go_sem, ↓reduceIte, Nat.reduceEqDiff, Nat.reduceLT, Nat.reduceLeDiff, Nat.reduceAdd, Nat.reduceMul, Nat.reduceSub, reduceCtorEq, Nat.reduceMod, Nat.reduceBEq, Int.reduceBEq, Int.reduceBNe, Int.reduceToNat]
                omega
        · have hcc : ¬ (k : Int) < ps.length := by omega
          simp -implicitDefEqProofs only [go_sem, ↓reduceIte, Nat.reduceEqDiff, Nat.reduceLT, Nat.reduceLeDiff, Nat.reduceAdd, Nat.reduceMul, Nat.reduceSub, reduceCtorEq, Nat.reduceMod, Nat.reduceBEq, Int.reduceBEq, Int.reduceBNe, Int.reduceToNat, hcc]
          refine hQ _ _ _ ?_
          simp -implicitDefEqProofs only [go_sem, ↓reduceIte, Nat.reduceEqDiff, Nat.reduceLT, Nat.reduceLeDiff, Nat.reduceAdd, Nat.reduceMul, Nat.reduceSub, reduceCtorEq, Nat.reduceMod, Nat.reduceBEq, Int.reduceBEq, Int.reduceBNe, Int.reduceToNat, e3, e7, e14, hinv.2.1]
          refine Same_spec _ _ (by omega) _ _ ?_
          rw [sameL_refl]
          simp -implicitDefEqProofs only [go_sem, ↓reduceIte, Nat.reduceEqDiff, Nat.reduceLT, Nat.reduceLeDiff, Nat.reduceAdd, Nat.reduceMul, Nat.reduceSub, reduceCtorEq, Nat.reduceMod, Nat.reduceBEq, Int.reduceBEq, Int.reduceBNe, Int.reduceToNat]
          refine awake_spec _ _ ?_
          simp -implicitDefEqProofs only [go_sem, ↓reduceIte, Nat.reduceEqDiff, Nat.reduceLT, Nat.reduceLeDiff, Nat.reduceAdd, Nat.reduceMul, Nat.reduceSub, reduceCtorEq, Nat.reduceMod, Nat.reduceBEq, Int.reduceBEq, Int.reduceBNe, Int.reduceToNat]
          exact ⟨S, hinv.2.2, hK⟩
end Go.Proofs.Ytjdfajibflodbaa.V
