/- Rows: what is cut may be, has the terms that it had, and ends where it ended. -/
import Derived.Test.YtjdfajibflodbaaRL2
set_option linter.unusedVariables false
set_option linter.unusedSimpArgs false
namespace Go.Proofs.Ytjdfajibflodbaa.V
open Go Go.VL

def cutF (l : Lg) (x t : Int) : Lg := if chk l && (atF l x).2 && ((atF l x).1 == t) then ⟨x, t, l.rows.drop (x - l.i).toNat⟩ else ⟨x, t, []⟩

theorem at_ge {l : Lg} {x : Int} (hs : (atF l x).2 = true) : l.i ≤ x := by
  unfold atF at hs
  split at hs
  · omega
  · split at hs
    · cases hs
    · omega

theorem Cut_spec (l : Lg) (x t : Int) (hx : InR x) (hl : l.rows.length ≤ 100000) (S : Store) : PRet Try.prog 25 [encG l, .int .i64 x, .int .i64 t] S (encG (cutF l x t)) := by
  intro K hK
  refine pcalls_of (C := C) (fun _ => false) (fun _ => false) Try.func25 rfl rfl (by simp [Try.f25]) ?_
  have hf : Fit l := by unfold Fit; omega
  simp -implicitDefEqProofs only [go_sem, ↓reduceIte, Nat.reduceEqDiff, Nat.reduceLT, Nat.reduceLeDiff, Nat.reduceAdd, Nat.reduceMul, Nat.reduceSub, reduceCtorEq, Nat.reduceMod, Nat.reduceBEq, Int.reduceBEq, Int.reduceBNe, Int.reduceToNat, Try.f25, encG]
  refine Term_spec l x hx hf _ _ ?_
  unfold cutF at hK
  cases h : chk l
  · rw [h] at hK
    simp -implicitDefEqProofs only [go_sem, ↓reduceIte, Nat.reduceEqDiff, Nat.reduceLT, Nat.reduceLeDiff, Nat.reduceAdd, Nat.reduceMul, Nat.reduceSub, reduceCtorEq, Nat.reduceMod, Nat.reduceBEq, Int.reduceBEq, Int.reduceBNe, Int.reduceToNat]
    exact ⟨S, fun _ _ h => h, hK⟩
  · rw [h] at hK
    obtain ⟨c1, c2, c3, c4, hr⟩ := chk_iff h
    simp -implicitDefEqProofs only [go_sem, ↓reduceIte, Nat.reduceEqDiff, Nat.reduceLT, Nat.reduceLeDiff, Nat.reduceAdd, Nat.reduceMul, Nat.reduceSub, reduceCtorEq, Nat.reduceMod, Nat.reduceBEq, Int.reduceBEq, Int.reduceBNe, Int.reduceToNat]
    cases h1 : (atF l x).2
    · rw [h1] at hK
      simp -implicitDefEqProofs only [go_sem, ↓reduceIte, Nat.reduceEqDiff, Nat.reduceLT, Nat.reduceLeDiff, Nat.reduceAdd, Nat.reduceMul, Nat.reduceSub, reduceCtorEq, Nat.reduceMod, Nat.reduceBEq, Int.reduceBEq, Int.reduceBNe, Int.reduceToNat, h1]
      exact ⟨S, fun _ _ h => h, hK⟩
    · rw [h1] at hK
      cases h2 : (atF l x).1 == t
      · rw [h2] at hK
        simp -implicitDefEqProofs only [go_sem, ↓reduceIte, Nat.reduceEqDiff, Nat.reduceLT, Nat.reduceLeDiff, Nat.reduceAdd, Nat.reduceMul, Nat.reduceSub, reduceCtorEq, Nat.reduceMod, Nat.reduceBEq, Int.reduceBEq, Int.reduceBNe, Int.reduceToNat, h1, h2]
        exact ⟨S, fun _ _ h => h, hK⟩
      · rw [h2] at hK
        have g1 := at_ge h1
        have g2 := at_le h h1
        rw [lastF_i _ _ _ hr] at g2
        have hw : IntKind.i64.wrap (x - l.i) = x - l.i := wrap64 (by unfold InR at hx; omega) (by unfold InR at hx; omega)
        have hz : (0 : Int) ≤ x - l.i ∧ x - l.i ≤ l.rows.length ∧ (l.rows.length : Int) ≤ l.rows.length := by omega
        simp -implicitDefEqProofs only [go_sem, ↓reduceIte, Nat.reduceEqDiff, Nat.reduceLT, Nat.reduceLeDiff, Nat.reduceAdd, Nat.reduceMul, Nat.reduceSub, reduceCtorEq, Nat.reduceMod, Nat.reduceBEq, Int.reduceBEq, Int.reduceBNe, Int.reduceToNat, h1, h2, hw, hz]
        have htk : List.take (l.rows.length - (x - l.i).toNat) (List.drop (x - l.i).toNat l.rows) = l.rows.drop (x - l.i).toNat := List.take_of_length_le (by simp)
        rw [htk]
        refine own_spec (l.rows.drop (x - l.i).toNat) (by simp; omega) (fun e he => rise_d _ _ _ hr e (List.mem_of_mem_drop he)) _ _ ?_
        simp -implicitDefEqProofs only [go_sem, ↓reduceIte, Nat.reduceEqDiff, Nat.reduceLT, Nat.reduceLeDiff, Nat.reduceAdd, Nat.reduceMul, Nat.reduceSub, reduceCtorEq, Nat.reduceMod, Nat.reduceBEq, Int.reduceBEq, Int.reduceBNe, Int.reduceToNat]
        exact ⟨S, fun _ _ h => h, hK⟩

theorem at_row {l : Lg} (h : chk l = true) {k : Nat} {e : Ent} (he : l.rows[k]? = some e) : atF l e.i = (e.t, true) := by
  obtain ⟨c1, c2, c3, c4, hr⟩ := chk_iff h
  obtain ⟨h1, _⟩ := rise_get _ _ _ hr k e he
  unfold atF
  rw [if_neg (by omega), if_neg (by omega)]
  have : (e.i - l.i - 1).toNat = k := by omega
  rw [this, he]

theorem cut_base {l : Lg} (h : chk l = true) {x : Int} (hs : (atF l x).2 = true) : lastF l.i l.t (l.rows.take (x - l.i).toNat) = (x, (atF l x).1) ∧ within (atF l x).1 0 = true ∧ within x 0 = true := by
  obtain ⟨c1, c2, c3, c4, hr⟩ := chk_iff h
  have g1 := at_ge hs
  have g2 := at_le h hs
  have hb := lastF_le h
  rw [lastF_i _ _ _ hr] at g2 hb
  have hx : within x 0 = true := within_iff.2 (by omega)
  by_cases h0 : x = l.i
  · subst h0
    have : (l.i - l.i).toNat = 0 := by omega
    rw [this]
    simp only [List.take_zero, lastF, atF, if_true]
    exact ⟨trivial, within_iff.2 (by omega), hx⟩
  · obtain ⟨e, he⟩ : ∃ e, l.rows[(x - l.i - 1).toNat]? = some e := ⟨_, List.getElem?_eq_getElem (by omega)⟩
    have hk : (x - l.i).toNat = (x - l.i - 1).toNat + 1 := by omega
    rw [hk, lastF_take l.rows l.i l.t _ hr (by omega) e he]
    obtain ⟨h1, h2, h3, _⟩ := rise_get _ _ _ hr _ e he
    have ha := at_row h he
    have hxe : e.i = x := by omega
    rw [hxe] at ha ⊢
    rw [ha]
    have := within_iff.1 h3
    exact ⟨rfl, within_iff.2 (by omega), hx⟩

theorem cut_chk {l : Lg} (h : chk l = true) {x : Int} (hs : (atF l x).2 = true) : chk ⟨x, (atF l x).1, l.rows.drop (x - l.i).toNat⟩ = true ∧ lastF x (atF l x).1 (l.rows.drop (x - l.i).toNat) = lastF l.i l.t l.rows := by
  obtain ⟨c1, c2, c3, c4, hr⟩ := chk_iff h
  obtain ⟨b1, b2, b3⟩ := cut_base h hs
  have hsp : l.rows.take (x - l.i).toNat ++ l.rows.drop (x - l.i).toNat = l.rows := List.take_append_drop _ _
  constructor
  · have hr2 := hr
    rw [← hsp, rise_app, b1, Bool.and_eq_true] at hr2
    simp only [chk, b2, b3, Bool.true_and]
    exact hr2.2
  · conv => rhs; rw [← hsp, lastF_app, b1]

theorem cut_spec (l : Lg) (x : Int) (hx : InR x) (S : Store) : PRet Try.prog 9 [encG l, .int .i64 x] S (.bool true) := by
  intro K hK
  refine pcalls_of (C := C) (fun _ => false) (fun _ => false) Try.func9 rfl rfl (by simp [Try.f9]) ?_
  simp -implicitDefEqProofs only [go_sem, ↓reduceIte, Nat.reduceEqDiff, Nat.reduceLT, Nat.reduceLeDiff, Nat.reduceAdd, Nat.reduceMul, Nat.reduceSub, reduceCtorEq, Nat.reduceMod, Nat.reduceBEq, Int.reduceBEq, Int.reduceBNe, Int.reduceToNat, Try.f9, encG]
  refine light_spec [l.rows] (by simp) _ _ ?_
  cases h1 : lightF 0 [l.rows]
  · simp -implicitDefEqProofs only [go_sem, ↓reduceIte, Nat.reduceEqDiff, Nat.reduceLT, Nat.reduceLeDiff, Nat.reduceAdd, Nat.reduceMul, Nat.reduceSub, reduceCtorEq, Nat.reduceMod, Nat.reduceBEq, Int.reduceBEq, Int.reduceBNe, Int.reduceToNat, h1]
    refine awake_spec _ _ ?_
    simp -implicitDefEqProofs only [go_sem, ↓reduceIte, Nat.reduceEqDiff, Nat.reduceLT, Nat.reduceLeDiff, Nat.reduceAdd, Nat.reduceMul, Nat.reduceSub, reduceCtorEq, Nat.reduceMod, Nat.reduceBEq, Int.reduceBEq, Int.reduceBNe, Int.reduceToNat]
    exact ⟨S, fun _ _ h => h, hK⟩
  · have hlen : l.rows.length ≤ 200 := light_len _ _ h1 _ (by simp)
    have hf : Fit l := by unfold Fit; omega
    simp -implicitDefEqProofs only [go_sem, ↓reduceIte, Nat.reduceEqDiff, Nat.reduceLT, Nat.reduceLeDiff, Nat.reduceAdd, Nat.reduceMul, Nat.reduceSub, reduceCtorEq, Nat.reduceMod, Nat.reduceBEq, Int.reduceBEq, Int.reduceBNe, Int.reduceToNat, h1]
    refine check_spec l hf _ _ ?_
    cases h : chk l
    · simp -implicitDefEqProofs only [go_sem, ↓reduceIte, Nat.reduceEqDiff, Nat.reduceLT, Nat.reduceLeDiff, Nat.reduceAdd, Nat.reduceMul, Nat.reduceSub, reduceCtorEq, Nat.reduceMod, Nat.reduceBEq, Int.reduceBEq, Int.reduceBNe, Int.reduceToNat, chkN_f]
      refine awake_spec _ _ ?_
      simp -implicitDefEqProofs only [go_sem, ↓reduceIte, Nat.reduceEqDiff, Nat.reduceLT, Nat.reduceLeDiff, Nat.reduceAdd, Nat.reduceMul, Nat.reduceSub, reduceCtorEq, Nat.reduceMod, Nat.reduceBEq, Int.reduceBEq, Int.reduceBNe, Int.reduceToNat]
      exact ⟨S, fun _ _ h => h, hK⟩
    · simp -implicitDefEqProofs only [go_sem, ↓reduceIte, Nat.reduceEqDiff, Nat.reduceLT, Nat.reduceLeDiff, Nat.reduceAdd, Nat.reduceMul, Nat.reduceSub, reduceCtorEq, Nat.reduceMod, Nat.reduceBEq, Int.reduceBEq, Int.reduceBNe, Int.reduceToNat, chkN_t]
      refine Term_spec l x hx hf _ _ ?_
      rw [h]
      simp -implicitDefEqProofs only [go_sem, ↓reduceIte, Nat.reduceEqDiff, Nat.reduceLT, Nat.reduceLeDiff, Nat.reduceAdd, Nat.reduceMul, Nat.reduceSub, reduceCtorEq, Nat.reduceMod, Nat.reduceBEq, Int.reduceBEq, Int.reduceBNe, Int.reduceToNat]
      have n0 : ((0 : Nat) : Int) = 0 := rfl
      cases h2 : (atF l x).2
      · simp -implicitDefEqProofs only [go_sem, ↓reduceIte, Nat.reduceEqDiff, Nat.reduceLT, Nat.reduceLeDiff, Nat.reduceAdd, Nat.reduceMul, Nat.reduceSub, reduceCtorEq, Nat.reduceMod, Nat.reduceBEq, Int.reduceBEq, Int.reduceBNe, Int.reduceToNat]
        refine Cut_spec l x _ hx (by omega) _ _ ?_
        have hc : cutF l x (atF l x).1 = ⟨x, (atF l x).1, []⟩ := by simp [cutF, h2]
        rw [hc]
        simp -implicitDefEqProofs only [go_sem, ↓reduceIte, Nat.reduceEqDiff, Nat.reduceLT, Nat.reduceLeDiff, Nat.reduceAdd, Nat.reduceMul, Nat.reduceSub, reduceCtorEq, Nat.reduceMod, Nat.reduceBEq, Int.reduceBEq, Int.reduceBNe, Int.reduceToNat, encG, n0]
        refine awake_spec _ _ ?_
        simp -implicitDefEqProofs only [go_sem, ↓reduceIte, Nat.reduceEqDiff, Nat.reduceLT, Nat.reduceLeDiff, Nat.reduceAdd, Nat.reduceMul, Nat.reduceSub, reduceCtorEq, Nat.reduceMod, Nat.reduceBEq, Int.reduceBEq, Int.reduceBNe, Int.reduceToNat]
        exact ⟨S, fun _ _ h => h, hK⟩
      · simp -implicitDefEqProofs only [go_sem, ↓reduceIte, Nat.reduceEqDiff, Nat.reduceLT, Nat.reduceLeDiff, Nat.reduceAdd, Nat.reduceMul, Nat.reduceSub, reduceCtorEq, Nat.reduceMod, Nat.reduceBEq, Int.reduceBEq, Int.reduceBNe, Int.reduceToNat]
        refine Cut_spec l x _ hx (by omega) _ _ ?_
        have hc : cutF l x (atF l x).1 = ⟨x, (atF l x).1, l.rows.drop (x - l.i).toNat⟩ := by simp [cutF, h, h2]
        rw [hc]
        obtain ⟨k1, k2⟩ := cut_chk h h2
        obtain ⟨_, w2, _⟩ := cut_base h h2
        have w3 := within_iff.1 w2
        have hfc : Fit ⟨x, (atF l x).1, l.rows.drop (x - l.i).toNat⟩ := by unfold Fit; simp only [List.length_drop]; omega
        generalize hD : l.rows.drop (x - l.i).toNat = D at *
        have hDl : D.length ≤ 200 := by rw [← hD]; simp only [List.length_drop]; omega
        have hDg : ∀ (k : Nat) e, D[k]? = some e → atF l e.i = (e.t, true) ∧ InR e.i := by
          intro k e he
          rw [← hD, List.getElem?_drop] at he
          refine ⟨at_row h he, ?_⟩
          obtain ⟨_, q2, _⟩ := rise_get _ _ _ (chk_iff h).2.2.2.2 _ e he
          have := within_iff.1 q2
          unfold InR
          omega
        simp -implicitDefEqProofs only [go_sem, ↓reduceIte, Nat.reduceEqDiff, Nat.reduceLT, Nat.reduceLeDiff, Nat.reduceAdd, Nat.reduceMul, Nat.reduceSub, reduceCtorEq, Nat.reduceMod, Nat.reduceBEq, Int.reduceBEq, Int.reduceBNe, Int.reduceToNat, encG]
        refine Last_spec l hf _ _ ?_
        rw [h]
        simp -implicitDefEqProofs only [go_sem, ↓reduceIte, Nat.reduceEqDiff, Nat.reduceLT, Nat.reduceLeDiff, Nat.reduceAdd, Nat.reduceMul, Nat.reduceSub, reduceCtorEq, Nat.reduceMod, Nat.reduceBEq, Int.reduceBEq, Int.reduceBNe, Int.reduceToNat]
        refine Last_spec ⟨x, (atF l x).1, D⟩ hfc _ _ ?_
        rw [k1]
        simp -implicitDefEqProofs only [go_sem, ↓reduceIte, Nat.reduceEqDiff, Nat.reduceLT, Nat.reduceLeDiff, Nat.reduceAdd, Nat.reduceMul, Nat.reduceSub, reduceCtorEq, Nat.reduceMod, Nat.reduceBEq, Int.reduceBEq, Int.reduceBNe, Int.reduceToNat, k2]
        refine vwp_loop (fun e S' => S' = S ∧ ∃ k : Nat, k ≤ D.length ∧ e 1 = .int .i64 x ∧ e 2 = .ip [.int .i64 l.i, .int .i64 l.t, .sl .no 3 (encL l.rows)] 0 ∧ e 5 = .int .i64 (atF l x).1 ∧ e 7 = .ip [.int .i64 x, .int .i64 (atF l x).1, .sl .no 3 (encL D)] 0 ∧
          e 8 = .int .i64 (lastF l.i l.t l.rows).1 ∧ e 9 = .int .i64 (lastF l.i l.t l.rows).2 ∧ e 10 = .int .i64 (lastF l.i l.t l.rows).1 ∧ e 11 = .int .i64 (lastF l.i l.t l.rows).2 ∧ e 60 = .int .i64 D.length ∧ e 61 = .int .i64 k) (fun e _ => match e 61 with | .int _ k => D.length - k.toNat | _ => 0) ?_ ?_
        · exact ⟨rfl, 0, Nat.zero_le _, rfl, rfl, rfl, rfl, rfl, rfl, rfl, rfl, rfl, rfl⟩
        · rintro e S' ⟨rfl, k, hk, e1, e2, e5, e7, e8, e9, e10, e11, e60, e61⟩
          simp -implicitDefEqProofs only [go_sem, ↓reduceIte, Nat.reduceEqDiff, Nat.reduceLT, Nat.reduceLeDiff, Nat.reduceAdd, Nat.reduceMul, Nat.reduceSub, reduceCtorEq, Nat.reduceMod, Nat.reduceBEq, Int.reduceBEq, Int.reduceBNe, Int.reduceToNat, e60, e61]
          by_cases hlt : k < D.length
          · obtain ⟨y, hy⟩ : ∃ y, D[k]? = some y := ⟨_, List.getElem?_eq_getElem hlt⟩
            obtain ⟨y1, y2⟩ := hDg k y hy
            have hin : (0 : Int) ≤ k ∧ (k : Int) < D.length := by omega
            have hk1 : IntKind.i64.wrap ((k : Int) + 1) = ((k + 1 : Nat) : Int) := wrap64 (by omega) (by omega)
            simp -implicitDefEqProofs only [go_sem, ↓reduceIte, Nat.reduceEqDiff, Nat.reduceLT, Nat.reduceLeDiff, Nat.reduceAdd, Nat.reduceMul, Nat.reduceSub, reduceCtorEq, Nat.reduceMod, Nat.reduceBEq, Int.reduceBEq, Int.reduceBNe, Int.reduceToNat, hin, e2, e7, e61]
            refine vwp_draw (by decide +kernel) ?_
            simp -implicitDefEqProofs only [go_sem, ↓reduceIte, Nat.reduceEqDiff, Nat.reduceLT, Nat.reduceLeDiff, Nat.reduceAdd, Nat.reduceMul, Nat.reduceSub, reduceCtorEq, Nat.reduceMod, Nat.reduceBEq, Int.reduceBEq, Int.reduceBNe, Int.reduceToNat, hin, e2, e7, e61, getD_encL hy, encE]
            refine q_call _ (by simp -implicitDefEqProofs only [go_sem, ↓reduceIte, Nat.reduceEqDiff, Nat.reduceLT, Nat.reduceLeDiff, Nat.reduceAdd, Nat.reduceMul, Nat.reduceSub, reduceCtorEq, Nat.reduceMod, Nat.reduceBEq, Int.reduceBEq, Int.reduceBNe, Int.reduceToNat]; exact Term_spec l y.i y2 hf _) (by decide) rfl ?_
            simp -implicitDefEqProofs only [go_sem, ↓reduceIte, Nat.reduceEqDiff, Nat.reduceLT, Nat.reduceLeDiff, Nat.reduceAdd, Nat.reduceMul, Nat.reduceSub, reduceCtorEq, Nat.reduceMod, Nat.reduceBEq, Int.reduceBEq, Int.reduceBNe, Int.reduceToNat, h, y1, hin, e2, e7, e61, getD_encL hy, encE, hk1]
            refine ⟨S', fun _ _ h => h, ⟨rfl, k + 1, hlt, ?_, ?_, ?_, ?_, ?_, ?_, ?_, ?_, ?_, ?_⟩, ?_⟩
            · simp -implicitDefEqProofs only [go_sem, ↓reduceIte, Nat.reduceEqDiff, Nat.reduceLT, Nat.reduceLeDiff, Nat.reduceAdd, Nat.reduceMul, Nat.reduceSub, reduceCtorEq, Nat.reduceMod, Nat.reduceBEq, Int.reduceBEq, Int.reduceBNe, Int.reduceToNat, e1]
            · simp -implicitDefEqProofs only [go_sem, ↓reduceIte, Nat.reduceEqDiff, Nat.reduceLT, Nat.reduceLeDiff, Nat.reduceAdd, Nat.reduceMul, Nat.reduceSub, reduceCtorEq, Nat.reduceMod, Nat.reduceBEq, Int.reduceBEq, Int.reduceBNe, Int.reduceToNat, e2]
            · simp -implicitDefEqProofs only [go_sem, ↓reduceIte, Nat.reduceEqDiff, Nat.reduceLT, Nat.reduceLeDiff, Nat.reduceAdd, Nat.reduceMul, Nat.reduceSub, reduceCtorEq, Nat.reduceMod, Nat.reduceBEq, Int.reduceBEq, Int.reduceBNe, Int.reduceToNat, e5]
            · simp -implicitDefEqProofs only [go_sem, ↓reduceIte, Nat.reduceEqDiff, Nat.reduceLT, Nat.reduceLeDiff, Nat.reduceAdd, Nat.reduceMul, Nat.reduceSub, reduceCtorEq, Nat.reduceMod, Nat.reduceBEq, Int.reduceBEq, Int.reduceBNe, Int.reduceToNat, e7]
            · simp -implicitDefEqProofs only [go_sem, ↓reduceIte, Nat.reduceEqDiff, Nat.reduceLT, Nat.reduceLeDiff, Nat.reduceAdd, Nat.reduceMul, Nat.reduceSub, reduceCtorEq, Nat.reduceMod, Nat.reduceBEq, Int.reduceBEq, Int.reduceBNe, Int.reduceToNat, e8]
            · simp -implicitDefEqProofs only [go_sem, ↓reduceIte, Nat.reduceEqDiff, Nat.reduceLT, Nat.reduceLeDiff, Nat.reduceAdd, Nat.reduceMul, Nat.reduceSub, reduceCtorEq, Nat.reduceMod, Nat.reduceBEq, Int.reduceBEq, Int.reduceBNe, Int.reduceToNat, e9]
            · simp -implicitDefEqProofs only [go_sem, ↓reduceIte, Nat.reduceEqDiff, Nat.reduceLT, Nat.reduceLeDiff, Nat.reduceAdd, Nat.reduceMul, Nat.reduceSub, reduceCtorEq, Nat.reduceMod, Nat.reduceBEq, Int.reduceBEq, Int.reduceBNe, Int.reduceToNat, e10]
            · simp -implicitDefEqProofs only [go_sem, ↓reduceIte, Nat.reduceEqDiff, Nat.reduceLT, Nat.reduceLeDiff, Nat.reduceAdd, Nat.reduceMul, Nat.reduceSub, reduceCtorEq, Nat.reduceMod, Nat.reduceBEq, Int.reduceBEq, Int.reduceBNe, Int.reduceToNat, e11]
            · simp -implicitDefEqProofs only [go_sem, ↓reduceIte, Nat.reduceEqDiff, Nat.reduceLT, Nat.reduceLeDiff, Nat.reduceAdd, Nat.reduceMul, Nat.reduceSub, reduceCtorEq, Nat.reduceMod, Nat.reduceBEq, Int.reduceBEq, Int.reduceBNe, Int.reduceToNat, e60]
            · simp -implicitDefEqProofs only [go_sem, ↓reduceIte, Nat.reduceEqDiff, Nat.reduceLT, Nat.reduceLeDiff, Nat.reduceAdd, Nat.reduceMul, Nat.reduceSub, reduceCtorEq, Nat.reduceMod, Nat.reduceBEq, Int.reduceBEq, Int.reduceBNe, Int.reduceToNat]
            · simp -implicitDefEqProofs only [go_sem, ↓reduceIte, Nat.reduceEqDiff, Nat.reduceLT, Nat.reduceLeDiff, Nat.reduceAdd, Nat.reduceMul, Nat.reduceSub, reduceCtorEq, Nat.reduceMod, Nat.reduceBEq, Int.reduceBEq, Int.reduceBNe, Int.reduceToNat]
              omega
          · have hcc : ¬ (k : Int) < D.length := by omega
            simp -implicitDefEqProofs only [go_sem, ↓reduceIte, Nat.reduceEqDiff, Nat.reduceLT, Nat.reduceLeDiff, Nat.reduceAdd, Nat.reduceMul, Nat.reduceSub, reduceCtorEq, Nat.reduceMod, Nat.reduceBEq, Int.reduceBEq, Int.reduceBNe, Int.reduceToNat, hcc, e7]
            refine check_spec ⟨x, (atF l x).1, D⟩ hfc _ _ ?_
            rw [k1]
            have hw : IntKind.i64.wrap ((atF l x).1 + 1) = (atF l x).1 + 1 := wrap64 (by omega) (by omega)
            simp -implicitDefEqProofs only [go_sem, ↓reduceIte, Nat.reduceEqDiff, Nat.reduceLT, Nat.reduceLeDiff, Nat.reduceAdd, Nat.reduceMul, Nat.reduceSub, reduceCtorEq, Nat.reduceMod, Nat.reduceBEq, Int.reduceBEq, Int.reduceBNe, Int.reduceToNat, chkN_t, e1, e2, e5, e8, e9, e10, e11, hw]
            refine Cut_spec l x _ hx (by omega) _ _ ?_
            have hc2 : cutF l x ((atF l x).1 + 1) = ⟨x, (atF l x).1 + 1, []⟩ := by
              have : ((atF l x).1 == (atF l x).1 + 1) = false := by
                rw [beq_eq_false_iff_ne]; omega
              simp [cutF, this]
            rw [hc2]
            simp -implicitDefEqProofs only [go_sem, ↓reduceIte, Nat.reduceEqDiff, Nat.reduceLT, Nat.reduceLeDiff, Nat.reduceAdd, Nat.reduceMul, Nat.reduceSub, reduceCtorEq, Nat.reduceMod, Nat.reduceBEq, Int.reduceBEq, Int.reduceBNe, Int.reduceToNat, encG, n0]
            refine awake_spec _ _ ?_
            simp -implicitDefEqProofs only [go_sem, ↓reduceIte, Nat.reduceEqDiff, Nat.reduceLT, Nat.reduceLeDiff, Nat.reduceAdd, Nat.reduceMul, Nat.reduceSub, reduceCtorEq, Nat.reduceMod, Nat.reduceBEq, Int.reduceBEq, Int.reduceBNe, Int.reduceToNat]
            exact ⟨S', fun _ _ h => h, hK⟩
end Go.Proofs.Ytjdfajibflodbaa.V
