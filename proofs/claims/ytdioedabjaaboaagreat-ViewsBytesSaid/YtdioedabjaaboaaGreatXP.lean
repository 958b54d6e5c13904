/- Views: the events of a map's plan, as a chain of pairs; lists alike. -/
import Derived.Test.YtdioedabjaaboaaGreatXO
import Derived.Test.YtdioedabjaaboaaGreatKLa
set_option linter.unusedVariables false
set_option linter.unusedSimpArgs false
namespace Go.Proofs.YtdioedabjaaboaaGreat.V
open Go Go.VL

theorem drop_none {k : ByteArray} : ∀ {L : List Pr}, look k L = none → dropL k L = L
 | [], _ => rfl
 | p :: L, h => by
  unfold look at h
  split at h
  ·cases h
  ·rename_i hs
   have hs' : same p.1 k = false := by simpa using hs
   unfold dropL
   rw [List.filter_cons, hs']
   have := drop_none h
   unfold dropL at this
   simp [this]
theorem drop_some {k v : ByteArray} : ∀ {L : List Pr}, Sorted L → look k L = some v → L.Perm ((k, v) :: dropL k L)
 | [], _, h => by cases h
 | p :: L, hs, h => by
  have h2 := List.pairwise_cons.1 hs
  unfold look at h
  cases hp : same p.1 k with
  | true =>
   rw [hp] at h
   simp only [if_true, Option.some.injEq] at h
   have hk : p.1 = k := same_iff.1 hp
   have hd : dropL k (p :: L) = L := by
    unfold dropL
    rw [List.filter_cons, hp]
    simp only [Bool.not_true, Bool.false_eq_true, if_false]
    refine List.filter_eq_self.2 fun q hq => ?_
    have := same_gt (h2.1 q hq)
    rw [hk] at this
    rw [this]; rfl
   rw [hd, ← hk, ← h]
  | false =>
   rw [hp] at h
   simp only [Bool.false_eq_true, if_false] at h
   have hd : dropL k (p :: L) = p :: dropL k L := by
    unfold dropL
    rw [List.filter_cons, hp]; rfl
   rw [hd]
   exact ((drop_some h2.2 h).cons p).trans (List.Perm.swap _ _ _)
theorem drop_not (k : ByteArray) (L : List Pr) : k ∉ (dropL k L).map Prod.fst := by
 intro h
 obtain ⟨p, hp, he⟩ := List.mem_map.1 h
 have := (List.mem_filter.1 hp).2
 rw [he, same_refl] at this
 cases this
theorem split_drop (k : ByteArray) : ∀ L : List Pr, (below k L ++ above k L).Perm (dropL k L)
 | [] => List.Perm.refl _
 | p :: L => by
  have ih := split_drop k L
  unfold below above dropL at ih ⊢
  rw [List.filter_cons, List.filter_cons, List.filter_cons]
  cases h1 : lt p.1 k with
  | true =>
   have h2 : lt k p.1 = false := lt_asym h1
   have h3 : same p.1 k = false := same_lt h1
   rw [h2, h3]
   exact ih.cons p
  | false =>
   cases h2 : lt k p.1 with
   | true =>
    have h3 : same p.1 k = false := same_gt h2
    rw [h3]
    exact List.perm_middle.trans (ih.cons p)
   | false =>
    have h3 : same p.1 k = true := same_iff.2 (lt_tri h1 h2)
    rw [h3]
    exact ih
theorem put_perm (k v : ByteArray) (L : List Pr) : (putL k v L).Perm ((k, v) :: dropL k L) := by
 unfold putL
 exact List.perm_middle.trans ((split_drop k L).cons _)
theorem evOk_of {cur : List Pr} (hs : Sorted cur) {x : KV} (h1 : x.had = hasQ cur x.k) (h2 : x.old = getQ cur x.k) : EvOk cur x (evDo cur x) := by
 refine ⟨dropL x.k cur, drop_not _ _, ?_, ?_⟩
 ·cases hl : look x.k cur with
  | none =>
   have : x.had = false := by rw [h1]; unfold hasQ; rw [hl]; rfl
   rw [this]
   exact (drop_none hl).symm
  | some v =>
   have : x.had = true := by rw [h1]; unfold hasQ; rw [hl]; rfl
   have h3 : x.old = v := by rw [h2]; unfold getQ; rw [hl]; rfl
   rw [this, h3]
   exact drop_some hs hl
 ·unfold evDo
  split
  ·exact put_perm _ _ _
  ·exact List.Perm.refl _
theorem chain_of {L : List Pr} (hs : Sorted L) {E : List KV} (ht : told L E) (hf : ∀ x ∈ E, x.old.size ≤ 1000000 ∧ x.now.size ≤ 1000000) : Chain (fun m => takeF L (E.take m)) E where
 step := fun m x hx => by
  obtain ⟨h1, h2, _⟩ := told_get E L m x ht hx
  rw [takeF_take hx]
  exact evOk_of (takeF_ok _ _ hs).1 h1 h2
 fit := hf
theorem sorted_nodup {L : List Pr} (h : Sorted L) : (L.map Prod.fst).Nodup := by
 unfold Sorted at h
 rw [List.Nodup, List.pairwise_map]
 refine List.Pairwise.imp (fun {a b} hab he => ?_) h
 rw [he] at hab
 have := same_lt hab
 rw [same_refl] at this
 cases this
end Go.Proofs.YtdioedabjaaboaaGreat.V
