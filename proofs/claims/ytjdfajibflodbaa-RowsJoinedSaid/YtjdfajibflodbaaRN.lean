/- Rows: what holds of a log behind what entries bring. -/
import Derived.Test.YtjdfajibflodbaaRL3
set_option linter.unusedVariables false
set_option linter.unusedSimpArgs false
namespace Go.Proofs.Ytjdfajibflodbaa.V
open Go Go.VL

theorem at_in {l : Lg} (h : chk l = true) {x : Int} (h1 : l.i ≤ x) (h2 : x ≤ (lastF l.i l.t l.rows).1) : (atF l x).2 = true := by
  obtain ⟨c1, c2, c3, c4, hr⟩ := chk_iff h
  rw [lastF_i _ _ _ hr] at h2
  unfold atF
  split
  · rfl
  · rw [if_neg (by omega)]
    obtain ⟨e, he⟩ : ∃ e, l.rows[(x - l.i - 1).toNat]? = some e := ⟨_, List.getElem?_eq_getElem (by omega)⟩
    rw [he]

/-- Is an entry there already, or behind the base? -/
def Has (l : Lg) (e : Ent) : Prop := e.i ≤ l.i ∨ ((atF l e.i).2 = true ∧ (atF l e.i).1 = e.t)

theorem joinGo_has {o : Lg} : ∀ m : List Ent, (∀ e ∈ m, Has o e) → joinGo o m = ⟨o, 0, [], true⟩
  | [], _ => rfl
  | e :: m, h => by
    have h1 : e.i ≤ o.i ∨ ((atF o e.i).2 = true ∧ (atF o e.i).1 = e.t) := h e (by simp)
    rw [joinGo, if_pos h1]
    exact joinGo_has m fun e' he' => h e' (List.mem_cons_of_mem _ he')

structure Joined (l : Lg) (m : List Ent) (x : Int) (j : Jn) : Prop where
  good : chk j.out = true
  i : j.out.i = l.i
  t : j.out.t = l.t
  has : ∀ e ∈ m, Has j.out e
  same : ∀ z, z ≤ x → atF j.out z = atF l z
  cut0 : j.cut = 0 ∨ (0 < j.cut ∧ 0 ≤ j.cut - l.i - 1 ∧ j.cut - l.i - 1 ≤ l.rows.length)
  len : (if 0 < j.cut then (j.cut - l.i - 1).toNat else l.rows.length) ≤ j.out.rows.length
  kept : j.out.rows.take (if 0 < j.cut then (j.cut - l.i - 1).toNat else l.rows.length) = l.rows.take (if 0 < j.cut then (j.cut - l.i - 1).toNat else l.rows.length)
  size : j.out.rows.length ≤ l.rows.length + m.length

theorem joined {l : Lg} (h : chk l = true) : ∀ (m : List Ent) (x t : Int), rise x t m = true → x ≤ (lastF l.i l.t l.rows).1 → (joinGo l m).ok = true → Joined l m x (joinGo l m)
  | [], x, t, _, hx, _ => by
    simp only [joinGo]
    exact ⟨h, rfl, rfl, by simp, fun _ _ => rfl, .inl rfl, by simp, rfl, by simp⟩
  | e :: m, x, t, hr, hx, hok => by
    obtain ⟨c1, c2, c3, c4, hrl⟩ := chk_iff h
    have hr0 := hr
    simp only [rise, Bool.and_eq_true, beq_iff_eq, decide_eq_true_eq] at hr
    obtain ⟨⟨⟨⟨⟨b1, b2⟩, b3⟩, b4⟩, b5⟩, b6⟩ := hr
    have w1 := within_iff.1 b1
    have w3 := within_iff.1 b3
    have w4 := within_iff.1 b4
    have hl := lastF_i _ _ _ hrl
    by_cases hs : e.i ≤ l.i ∨ ((atF l e.i).2 = true ∧ (atF l e.i).1 = e.t)
    · rw [joinGo, if_pos hs] at hok ⊢
      have hx2 : e.i ≤ (lastF l.i l.t l.rows).1 := by
        rcases hs with hs | hs
        · have := (lastF_le h).1; omega
        · exact at_le h hs.1
      have ih := joined h m e.i e.t b6 hx2 hok
      refine ⟨ih.good, ih.i, ih.t, fun e' he' => ?_, fun z hz => ih.same z (by omega), ih.cut0, ih.len, ih.kept, by have := ih.size; simp only [List.length_cons]; omega⟩
      rcases List.mem_cons.1 he' with rfl | he'
      · unfold Has
        rw [ih.i, ih.same _ (Int.le_refl _)]
        exact hs
      · exact ih.has e' he'
    · rw [joinGo, if_neg hs] at hok ⊢
      by_cases h2 : e.t < (atF l (e.i - 1)).1
      · rw [if_pos h2] at hok
        cases hok
      · rw [if_neg h2]
        have hei : l.i < e.i := by omega
        have hxe : e.i - 1 = x := by omega
        have hin := at_in h (x := e.i - 1) (by omega) (by omega)
        obtain ⟨q1, q2, q3⟩ := cut_base h hin
        have hj : (e.i - 1 - l.i).toNat = (e.i - l.i - 1).toNat := by omega
        rw [hj] at q1
        have hjn : (e.i - l.i - 1).toNat ≤ l.rows.length := by omega
        have hsp : l.rows.take (e.i - l.i - 1).toNat ++ l.rows.drop (e.i - l.i - 1).toNat = l.rows := List.take_append_drop _ _
        have htl : (l.rows.take (e.i - l.i - 1).toNat).length = (e.i - l.i - 1).toNat := by rw [List.length_take]; omega
        have good : chk ⟨l.i, l.t, l.rows.take (e.i - l.i - 1).toNat ++ (e :: m)⟩ = true := by
          have hrl2 := hrl
          rw [← hsp, rise_app, Bool.and_eq_true] at hrl2
          have hh := h
          simp only [chk, Bool.and_eq_true] at hh ⊢
          refine ⟨hh.1, ?_⟩
          rw [rise_app, hrl2.1, q1]
          simp only [Bool.true_and, rise, Bool.and_eq_true, beq_iff_eq, decide_eq_true_eq]
          exact ⟨⟨⟨⟨⟨q3, by omega⟩, b3⟩, within_iff.2 (by omega)⟩, b5⟩, b6⟩
        have hthere : (atF l e.i).2 = true → e.i ≤ (lastF l.i l.t l.rows).1 := fun hh => at_le h hh
        have hnot : (atF l e.i).2 = false → (e.i - l.i - 1).toNat = l.rows.length := by
          intro hh
          by_cases hc : e.i ≤ (lastF l.i l.t l.rows).1
          · rw [at_in h (by omega) hc] at hh
            cases hh
          · omega
        have hkept : (if 0 < (if (atF l e.i).2 then e.i else 0) then ((if (atF l e.i).2 then e.i else 0) - l.i - 1).toNat else l.rows.length) = (e.i - l.i - 1).toNat := by
          cases hh : (atF l e.i).2
          · simp [hnot hh]
          · simp only [if_true]
            rw [if_pos (by omega)]
        refine ⟨good, rfl, rfl, fun e' he' => ?_, fun z hz => ?_, ?_, ?_, ?_, ?_⟩
        · right
          obtain ⟨p, hp⟩ := List.mem_iff_getElem?.1 he'
          have := at_row good (k := (e.i - l.i - 1).toNat + p) (e := e') (by
            rw [List.getElem?_append_right (by omega), htl]
            rw [show (e.i - l.i - 1).toNat + p - (e.i - l.i - 1).toNat = p by omega]
            exact hp)
          rw [this]
          exact ⟨rfl, rfl⟩
        · unfold atF
          dsimp only
          by_cases z1 : z = l.i
          · rw [if_pos z1, if_pos z1]
          · rw [if_neg z1, if_neg z1]
            by_cases z2 : z < l.i
            · rw [if_pos z2, if_pos z2]
            · rw [if_neg z2, if_neg z2, List.getElem?_append_left (by rw [htl]; omega), List.getElem?_take, if_pos (by omega)]
        · dsimp only
          cases hh : (atF l e.i).2
          · left; simp
          · right
            have := hthere hh
            simp only [if_true]
            omega
        · dsimp only
          rw [hkept]
          simp only [List.length_append, htl, List.length_cons]
          omega
        · dsimp only
          rw [hkept, List.take_append_of_le_length (by rw [htl]; omega), List.take_take, Nat.min_self]
        · dsimp only
          simp only [List.length_append, htl, List.length_cons]
          omega
end Go.Proofs.Ytjdfajibflodbaa.V
