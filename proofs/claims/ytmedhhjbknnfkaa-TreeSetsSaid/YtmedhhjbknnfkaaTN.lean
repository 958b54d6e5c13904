/- Trees: one pointer, one tree; what leads from one list to another. -/
import Derived.Test.YtmedhhjbknnfkaaTM
set_option linter.unusedVariables false
set_option linter.unusedSimpArgs false
namespace Go.Proofs.Ytmedhhjbknnfkaa.V
open Go Go.VL

theorem alike_eq : ∀ (a b : T), VL.Alike (enc a) (enc b) → a = b
  | .nil, .nil, _ => rfl
  | .nil, .node .., ⟨g, w, rv, h1, h2⟩ => by
    rw [enc_nil] at h1
    rw [enc_node] at h2
    rw [rel_nilp h1] at h2
    cases h2
  | .node .., .nil, ⟨g, w, rv, h1, h2⟩ => by
    rw [enc_nil] at h2
    rw [enc_node] at h1
    rw [rel_nilp h2] at h1
    cases h1
  | .node k v l r d s, .node k' v' l' r' d' s', ⟨g, w, rv, h1, h2⟩ => by
    rw [enc_node] at h1 h2
    cases h1 with
    | @np _ b o f hb h hr =>
      cases h2 with
      | @np _ _ _ f' hb' h' hr' =>
        have key : ∀ (j : Nat) (x y : PV), [PV.str k, .str v, enc l, enc r, .int .i64 d, .int .i64 s][j]? = some x → [PV.str k', .str v', enc l', enc r', .int .i64 d', .int .i64 s'][j]? = some y → VL.Alike x y := by
          intro j x y hx hy
          have e1 := (h j x hx).2.1
          have e2 := (h' j y hy).2.1
          rw [e1] at e2
          injection e2 with e2
          have r1 := hr j x hx
          have r2 := hr' j y hy
          rw [← e2] at r2
          exact ⟨g, w, _, r1, r2⟩
        have str : ∀ {x y : ByteArray}, VL.Alike (.str x) (.str y) → x = y := by
          rintro x y ⟨g, w, rv, h1, h2⟩
          rw [rel_str h1] at h2
          have := rel_str h2
          injection this
        have int : ∀ {x y : Int}, VL.Alike (.int .i64 x) (.int .i64 y) → x = y := by
          rintro x y ⟨g, w, rv, h1, h2⟩
          rw [rel_int h1] at h2
          have := rel_int h2
          injection this
        rw [str (key 0 _ _ rfl rfl), str (key 1 _ _ rfl rfl), alike_eq l l' (key 2 _ _ rfl rfl), alike_eq r r' (key 3 _ _ rfl rfl), int (key 4 _ _ rfl rfl), int (key 5 _ _ rfl rfl)]

/-! ### events -/
structure Ev where
  k : ByteArray
  had : Bool
  old : ByteArray
  has : Bool
  now : ByteArray
def evNew (p : Pr) : Ev := ⟨p.1, false, ⟨#[]⟩, true, p.2⟩
def evMid (k v : ByteArray) : Option ByteArray → List Ev
  | none => [⟨k, true, v, false, ⟨#[]⟩⟩]
  | some w => if same w v then [] else [⟨k, true, v, true, w⟩]
def evL : List Pr → List Pr → List Ev
  | [], B => B.map evNew
  | p :: A, B => (below p.1 B).map evNew ++ (evMid p.1 p.2 (look p.1 B) ++ evL A (above p.1 B))
theorem look_filter {q : ByteArray → Bool} {k : ByteArray} (hk : q k = true) : ∀ (B : List Pr), look k (B.filter fun p => q p.1) = look k B
  | [] => rfl
  | p :: B => by
    rw [List.filter_cons, look]
    by_cases e : p.1 = k
    · rw [e, hk, if_pos rfl, look, e, same_refl]; rfl
    · rw [same_ne e]
      simp only [Bool.false_eq_true, if_false]
      split
      · rw [look, same_ne e]
        simp only [Bool.false_eq_true, if_false]
        exact look_filter hk B
      · exact look_filter hk B
theorem evL_mid (k v : ByteArray) (R : List Pr) : ∀ (A B : List Pr), (∀ p ∈ A, lt p.1 k = true) → evL (A ++ (k, v) :: R) B = evL A (below k B) ++ (evMid k v (look k B) ++ evL R (above k B))
  | [], B, _ => rfl
  | p :: A, B, h => by
    have hp := h p List.mem_cons_self
    have ih := evL_mid k v R A (above p.1 B) fun q hq => h q (List.mem_cons_of_mem _ hq)
    have e1 : below p.1 (below k B) = below p.1 B := by
      unfold below
      rw [List.filter_filter]
      congr 1
      funext q
      cases c : lt q.1 p.1
      · rfl
      · rw [lt_trans c hp]; rfl
    have e2 : look p.1 (below k B) = look p.1 B := look_filter (q := fun x => lt x k) hp B
    have e3 : above p.1 (below k B) = below k (above p.1 B) := by
      unfold below above
      rw [List.filter_filter, List.filter_filter]
      congr 1
      funext q
      exact Bool.and_comm _ _
    have e4 : look k (above p.1 B) = look k B := look_filter (q := fun x => lt p.1 x) hp B
    have e5 : above k (above p.1 B) = above k B := by
      unfold above
      rw [List.filter_filter]
      congr 1
      funext q
      cases c : lt k q.1
      · rfl
      · rw [lt_trans hp c]; rfl
    rw [List.cons_append, evL, ih, evL, e1, e2, e3, e4, e5]
    simp only [List.append_assoc]
theorem evL_self : ∀ (A : List Pr), Sorted A → evL A A = []
  | [], _ => rfl
  | p :: A, h => by
    have hp := List.pairwise_cons.1 h
    obtain ⟨m1, m2, m3⟩ := mid_at (A := []) (B := A) (k := p.1) (v := p.2) h
    simp only [List.nil_append] at m1 m2 m3
    have e : evMid p.1 p.2 (some p.2) = [] := by unfold evMid; simp [same_refl]
    rw [evL, m1, m2, m3, e, evL_self A hp.2]
    rfl
end Go.Proofs.Ytmedhhjbknnfkaa.V
