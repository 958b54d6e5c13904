/- Maps: what events tell (the first part of kv/KL.lean, for the seats of the views). -/
import Derived.Test.YtdioedabjaaboaaGreatKJ
set_option linter.unusedVariables false
set_option linter.unusedSimpArgs false
namespace Go.Proofs.YtdioedabjaaboaaGreat.V
open Go Go.VL

theorem look_drop {k x : ByteArray} (h : same k x = false) : ∀ L : List Pr, look x (dropL k L) = look x L
 | [] => rfl
 | p :: L => by
  have ih := look_drop h L
  unfold dropL at ih ⊢
  rw [List.filter_cons]
  cases c : same p.1 k
  ·simp only [Bool.not_false, if_true, look, ih]
  ·have := same_iff.1 c
   simp only [Bool.not_true, Bool.false_eq_true, if_false, look, this, h, ih]
theorem look_put_ne {L : List Pr} (hs : Sorted L) {k x : ByteArray} (h : same k x = false) (v : ByteArray) : look x (putL k v L) = look x L := by
 rw [← look_drop h L, drop_two hs, putL, look_app, look_app, look, h]
 simp
theorem look_evDo {L : List Pr} (hs : Sorted L) {e : KV} {x : ByteArray} (h : same e.k x = false) : look x (evDo L e) = look x L := by
 unfold evDo
 split
 ·exact look_put_ne hs h _
 ·exact look_drop h L

/-- Each event tells what its key had just ahead of it, and that something changed. -/
def told (L : List Pr) : List KV → Prop
 | [] => True
 | e :: E => (e.had = hasQ L e.k ∧ e.old = getQ L e.k ∧ (e.had == e.has && same e.old e.now) = false) ∧ told (evDo L e) E
theorem told_get : ∀ (E : List KV) (L : List Pr) (k : Nat) (e : KV), told L E → E[k]? = some e →
  e.had = hasQ (takeF L (E.take k)) e.k ∧ e.old = getQ (takeF L (E.take k)) e.k ∧ (e.had == e.has && same e.old e.now) = false
 | [], L, k, e, _, h => by simp at h
 | x :: E, L, 0, e, h1, h => by
  simp at h
  subst h
  exact h1.1
 | x :: E, L, k + 1, e, h1, h => told_get E (evDo L x) k e h1.2 (by simpa using h)
theorem right_dist : ∀ (l pre : List KO), rightF pre l = 0 → l.Pairwise (fun a b => same a.k b.k = false) ∧ ∀ o ∈ l, seenQ o.k pre = false
 | [], pre, _ => ⟨.nil, by simp⟩
 | o :: l, pre, h => by
  unfold rightF at h
  split at h
  ·split at h
   ·cases h
   ·split at h
    ·cases h
    ·rename_i hs
     obtain ⟨h1, h2⟩ := right_dist l (pre ++ [o]) h
     have h3 : ∀ x ∈ l, seenQ x.k pre = false ∧ same o.k x.k = false := fun x hx => by
      have := h2 x hx
      rw [seenQ_snoc] at this
      simpa using this
     refine ⟨List.pairwise_cons.2 ⟨fun x hx => (h3 x hx).2, h1⟩, fun x hx => ?_⟩
     rcases List.mem_cons.1 hx with rfl | hx
     ·simpa using hs
     ·exact (h3 x hx).1
  ·cases h
theorem plan_told (L : List Pr) (pos : Int) : ∀ (ops : List KO) (L' : List Pr), Sorted L' → (∀ o ∈ ops, look o.k L' = look o.k L) → ops.Pairwise (fun a b => same a.k b.k = false) → told L' (planE L pos ops)
 | [], L', _, _, _ => trivial
 | o :: ops, L', hs, hl, hp => by
  obtain ⟨p1, p2⟩ := List.pairwise_cons.1 hp
  have ho := hl o List.mem_cons_self
  unfold planE
  rw [List.flatMap_cons]
  unfold evOf
  cases c : condQ L o
  ·simp only [Bool.false_eq_true, if_false]
   refine ⟨⟨?_, ?_, c⟩, plan_told L pos ops _ (evDo_sorted hs _) (fun x hx => ?_) p2⟩
   ·show hasQ L o.k = hasQ L' o.k
    unfold hasQ
    rw [ho]
   ·show getQ L o.k = getQ L' o.k
    unfold getQ
    rw [ho]
   ·rw [look_evDo hs (p1 x hx)]
    exact hl x (List.mem_cons_of_mem _ hx)
  ·exact plan_told L pos ops L' hs (fun x hx => hl x (List.mem_cons_of_mem _ hx)) p2
theorem planF_told {L : List Pr} (hs : Sorted L) (pos : Int) (conds ops : List KO) : told L (planF L pos conds ops).1 := by
 unfold planF
 split
 ·rename_i hc
  obtain ⟨_, _, _, h4⟩ := checkF_len hc
  split
  ·split
   ·trivial
   ·exact plan_told L pos ops L hs (fun _ _ => rfl) (right_dist ops [] h4).1
  ·trivial
 ·trivial
theorem doF_take (L : List Pr) (pos : Int) (conds ops : List KO) : doF L pos conds ops = takeF L (planF L pos conds ops).1 := by
 unfold doF
 split
 ·rfl
 ·rename_i h
  unfold planF at h ⊢
  split
  ·rename_i hc
   rw [if_pos hc] at h
   split
   ·rename_i ha
    rw [if_pos ha] at h
    split
    ·rfl
    ·rename_i hp
     rw [if_neg hp] at h
     exact absurd rfl h
   ·rfl
  ·rfl

end Go.Proofs.YtdioedabjaaboaaGreat.V
