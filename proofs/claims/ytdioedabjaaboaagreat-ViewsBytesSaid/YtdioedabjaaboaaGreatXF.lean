/- Views: what a table's objects hold, of the pairs that it has seen. -/
import Derived.Test.YtdioedabjaaboaaGreatXE
set_option linter.unusedVariables false
set_option linter.unusedSimpArgs false
namespace Go.Proofs.YtdioedabjaaboaaGreat.V
open Go Go.VL

def inG (w : Wv) (g : ByteArray) (p : Pr) : Bool := decide (fieldF p.2 w.field = some g)
def memG (w : Wv) (g : ByteArray) (P : List Pr) : List Pr := P.filter (inG w g)
def sH (w : Wv) (P : List Pr) : Int := (P.map fun p => hi32 (numberF w p.2)).sum
def sL (w : Wv) (P : List Pr) : Int := (P.map fun p => lo32 (numberF w p.2)).sum
def sumOf (w : Wv) (P : List Pr) : Int × Int := (IntKind.i64.wrap (sH w P), IntKind.i64.wrap (sL w P))
theorem wrap_eq (x : Int) : IntKind.i64.wrap x = if x % 18446744073709551616 < 9223372036854775808 then x % 18446744073709551616 else x % 18446744073709551616 - 18446744073709551616 := by
 simp [IntKind.wrap, IntKind.bits, IntKind.signed]; split <;> omega
theorem wrap_add (a b : Int) : IntKind.i64.wrap (IntKind.i64.wrap a + IntKind.i64.wrap (1 * b)) = IntKind.i64.wrap (b + a) := by
 rw [wrap_eq, wrap_eq a, wrap_eq (1 * b), wrap_eq (b + a)]
 split <;> split <;> split <;> split <;> omega
theorem wrap_sub (a b : Int) : IntKind.i64.wrap (IntKind.i64.wrap (b + a) + IntKind.i64.wrap (-1 * b)) = IntKind.i64.wrap a := by
 rw [wrap_eq, wrap_eq (b + a), wrap_eq (-1 * b), wrap_eq a]
 split <;> split <;> split <;> split <;> omega
theorem sum_cons (w : Wv) (p : Pr) (Q : List Pr) : addF (sumOf w Q) (numberF w p.2) 1 = sumOf w (p :: Q) := by
 unfold addF sumOf sH sL
 rw [List.map_cons, List.map_cons, List.sum_cons, List.sum_cons, wrap_add, wrap_add]
theorem sum_uncons (w : Wv) (p : Pr) (Q : List Pr) : addF (sumOf w (p :: Q)) (numberF w p.2) (-1) = sumOf w Q := by
 unfold addF sumOf sH sL
 rw [List.map_cons, List.map_cons, List.sum_cons, List.sum_cons, wrap_sub, wrap_sub]
theorem sum_perm {α : Type} {f : α → Int} {l l' : List α} (h : l.Perm l') : (l.map f).sum = (l'.map f).sum := by
 induction h with
 | nil => rfl
 | cons x _ ih => simp only [List.map_cons, List.sum_cons, ih]
 | swap x y l => simp only [List.map_cons, List.sum_cons]; omega
 | trans _ _ h1 h2 => rw [h1, h2]
theorem sumOf_perm {w : Wv} {P Q : List Pr} (h : P.Perm Q) : sumOf w P = sumOf w Q := by
 unfold sumOf sH sL
 rw [sum_perm h, sum_perm h]
theorem memG_perm {w : Wv} {g : ByteArray} {P Q : List Pr} (h : P.Perm Q) : (memG w g P).Perm (memG w g Q) := h.filter _
theorem perm_ne {α : Type} {l l' : List α} (h : l.Perm l') : l ≠ [] ↔ l' ≠ [] := by
 constructor
 ·intro h1 h2; subst h2; exact h1 h.eq_nil
 ·intro h1 h2; subst h2; exact h1 h.symm.eq_nil
theorem memG_in {w : Wv} {g : ByteArray} {p : Pr} {P : List Pr} (h : fieldF p.2 w.field = some g) : memG w g (p :: P) = p :: memG w g P := by
 unfold memG
 rw [List.filter_cons, if_pos (by simp [inG, h])]
theorem memG_out {w : Wv} {g : ByteArray} {p : Pr} {P : List Pr} (h : fieldF p.2 w.field ≠ some g) : memG w g (p :: P) = memG w g P := by
 unfold memG
 rw [List.filter_cons, if_neg (by simp [inG, h])]

def kv1 (k : ByteArray) : ByteArray × PV := (k, .bool true)
structure Tab (S : Store) (w : Wv) (gid : Nat) (P : List Pr) (kd : ByteArray → Nat) : Prop where
 top : ∃ cl st, ∃ L : AL, MC S gid cl st L ∧ (ks L).Nodup ∧ ∀ g v, (g, v) ∈ L ↔ (memG w g P ≠ [] ∧ v = gv (kd g) (sumOf w (memG w g P)))
 sub : ∀ g, memG w g P ≠ [] → kd g ≠ gid ∧ ∃ cl st, ∃ kl : List ByteArray, MC S (kd g) cl st (kl.map kv1) ∧ kl.Perm ((memG w g P).map Prod.fst)
 inj : ∀ g g', memG w g P ≠ [] → memG w g' P ≠ [] → kd g = kd g' → g = g'
theorem Tab.perm {S : Store} {w : Wv} {gid : Nat} {P Q : List Pr} {kd : ByteArray → Nat} (h : Tab S w gid P kd) (hp : P.Perm Q) : Tab S w gid Q kd where
 top := by
  obtain ⟨cl, st, L, h1, h2, h3⟩ := h.top
  refine ⟨cl, st, L, h1, h2, fun g v => ?_⟩
  rw [h3, perm_ne (memG_perm hp), sumOf_perm (memG_perm hp)]
 sub := fun g hg => by
  obtain ⟨h1, cl, st, kl, h2, h3⟩ := h.sub g ((perm_ne (memG_perm hp)).2 hg)
  exact ⟨h1, cl, st, kl, h2, h3.trans ((memG_perm hp).map _)⟩
 inj := fun g g' h1 h2 => h.inj g g' ((perm_ne (memG_perm hp)).2 h1) ((perm_ne (memG_perm hp)).2 h2)
/-- A table stays, where its objects stay. -/
theorem Tab.keep {S S' : Store} {w : Wv} {gid : Nat} {P : List Pr} {kd : ByteArray → Nat} (h : Tab S w gid P kd) (hk : ∀ id x, S id = some x → S' id = some x) : Tab S' w gid P kd where
 top := by
  obtain ⟨cl, st, L, h1, h2, h3⟩ := h.top
  exact ⟨cl, st, L, h1.eq (by rw [hk _ _ h1.some, h1.some]), h2, h3⟩
 sub := fun g hg => by
  obtain ⟨h1, cl, st, kl, h2, h3⟩ := h.sub g hg
  exact ⟨h1, cl, st, kl, h2.eq (by rw [hk _ _ h2.some, h2.some]), h3⟩
 inj := h.inj
structure NewTab (S0 S : Store) (w : Wv) (gid : Nat) (P : List Pr) (kd : ByteArray → Nat) : Prop where
 tab : Tab S w gid P kd
 old : ∀ id x, S0 id = some x → S id = some x
 top : S0 gid = none
 sub : ∀ g, memG w g P ≠ [] → S0 (kd g) = none
theorem Tab.at {S : Store} {w : Wv} {gid : Nat} {P : List Pr} {kd : ByteArray → Nat} (h : Tab S w gid P kd) : ∃ cl st, ∃ L : AL, MC S gid cl st L ∧ (ks L).Nodup ∧ (∀ g, lkA g L = if memG w g P ≠ [] then some (gv (kd g) (sumOf w (memG w g P))) else none) ∧ ∀ g v, (g, v) ∈ L ↔ (memG w g P ≠ [] ∧ v = gv (kd g) (sumOf w (memG w g P))) := by
 obtain ⟨cl, st, L, h1, h2, h3⟩ := h.top
 refine ⟨cl, st, L, h1, h2, fun g => ?_, h3⟩
 by_cases hg : memG w g P ≠ []
 ·rw [if_pos hg]
  exact lkA_of h2 ((h3 g _).2 ⟨hg, rfl⟩)
 ·rw [if_neg hg]
  cases hl : lkA g L with
  | none => rfl
  | some v => exact absurd ((h3 g v).1 (lkA_mem hl)).1 hg
theorem upd_keys {k : ByteArray} {kl : List ByteArray} (h : k ∉ kl) : updA k (.bool true) (kl.map kv1) = (kl ++ [k]).map kv1 := by
 rcases splitA k (kl.map kv1) with ⟨pre, v', post, h1, _⟩ | ⟨_, _, _, h2, _⟩
 ·have : (k, v') ∈ kl.map kv1 := by rw [h1]; simp
  obtain ⟨q, hq, he⟩ := List.mem_map.1 this
  unfold kv1 at he
  injection he with he
  subst he
  exact absurd hq h
 ·rw [h2, List.map_append]; rfl
theorem del_keys {k : ByteArray} {kl : List ByteArray} (h : k ∈ kl) : ∃ kl', delA k (kl.map kv1) = kl'.map kv1 ∧ kl.Perm (k :: kl') := by
 rcases splitA k (kl.map kv1) with ⟨pre, v', post, h1, h3, _, _, _, h2⟩ | ⟨h1, _⟩
 ·obtain ⟨p1, p2, e1, e2, e3⟩ := List.map_eq_append_iff.1 h1
  obtain ⟨q, p3, f1, f2, f3⟩ := List.map_eq_cons_iff.1 e3
  unfold kv1 at f2
  injection f2 with f2
  subst f2
  refine ⟨p1 ++ p3, ?_, ?_⟩
  ·rw [h2, List.map_append, e2, f3]
  ·rw [e1, f1]
   exact List.perm_middle
 ·exact absurd rfl (h1 (kv1 k) (List.mem_map.2 ⟨k, h, rfl⟩))
def kdSet (kd : ByteArray → Nat) (g : ByteArray) (id : Nat) : ByteArray → Nat := fun x => if x = g then id else kd x
theorem gvne {w : Wv} {g g' : ByteArray} {v : ByteArray} (hf : fieldF v w.field = some g) (h : g' ≠ g) : fieldF v w.field ≠ some g' := by
 rw [hf]; intro he; injection he with he; exact h he.symm
theorem NewTab.add {S0 S : Store} {w : Wv} {gid : Nat} {P : List Pr} {kd : ByteArray → Nat} (h : NewTab S0 S w gid P kd) (k v : ByteArray) (hk : k ∉ P.map Prod.fst) (hv : v.size ≤ 1000000) (K : PV → Store → Prop)
  (hK : ∀ S' kd', NewTab S0 S' w gid ((k, v) :: P) kd' → K (.tup []) S') : PCalls Tryz.prog 65 [.ip (encT w gid) 0, .str k, .str v, .bool true] S K := by
 obtain ⟨cl, st, L, h1, h2, h3, h4⟩ := h.tab.at
 cases hf : fieldF v w.field with
 | none =>
  refine with_none w gid k v true hv hf S K (hK S kd ?_)
  have hm : ∀ g, memG w g ((k, v) :: P) = memG w g P := fun g => memG_out (by rw [hf]; simp)
  exact ⟨⟨⟨cl, st, L, h1, h2, fun g u => by rw [hm]; exact h4 g u⟩, fun g hg => by rw [hm] at hg ⊢; exact h.tab.sub g hg, fun g g' a b => by rw [hm] at a b; exact h.tab.inj g g' a b⟩, h.old, h.top, fun g hg => by rw [hm] at hg; exact h.sub g hg⟩
 | some g =>
  have hin : memG w g ((k, v) :: P) = (k, v) :: memG w g P := memG_in hf
  have hout : ∀ g', g' ≠ g → memG w g' ((k, v) :: P) = memG w g' P := fun g' hg' => memG_out (gvne hf hg')
  by_cases hg : memG w g P ≠ []
  ·have hl := h3 g
   rw [if_pos hg] at hl
   obtain ⟨n1, c1, s1, kl, m1, p1⟩ := h.tab.sub g hg
   refine with_add1 w gid k v g hv hf S h1 hl m1 n1 K ?_
   intro S' a b c d hfr hG hKK
   have hkk : k ∉ kl := fun hx => by
    have := p1.mem_iff.1 hx
    obtain ⟨q, hq, he⟩ := List.mem_map.1 this
    exact hk (List.mem_map.2 ⟨q, (List.mem_filter.1 hq).1, he⟩)
   rw [upd_keys hkk] at hKK
   refine hK S' kd ⟨⟨⟨a, b, _, hG, nodup_upd h2, ?_⟩, ?_, ?_⟩, ?_, h.top, ?_⟩
   ·intro g' u
    rw [mem_upd h2]
    by_cases he : g' = g
    ·subst he
     rw [hin]
     constructor
     ·rintro (h5 | ⟨_, h5⟩)
      ·injection h5 with _ h5
       refine ⟨by simp, ?_⟩
       rw [h5, ← sum_cons]
      ·exact absurd rfl h5
     ·rintro ⟨_, h5⟩
      left
      rw [h5, ← sum_cons]
    ·rw [hout g' he, ← h4]
     constructor
     ·rintro (h5 | ⟨h5, _⟩)
      ·injection h5 with h5 _; exact absurd h5 he
      ·exact h5
     ·intro h5; exact .inr ⟨h5, he⟩
   ·intro g' hg'
    by_cases he : g' = g
    ·subst he
     refine ⟨n1, c, d, _, hKK, ?_⟩
     rw [hin, List.map_cons]
     exact (List.perm_append_singleton k kl).trans (p1.cons k)
    ·rw [hout g' he] at hg' ⊢
     obtain ⟨n2, c2, s2, kl2, m2, p2⟩ := h.tab.sub g' hg'
     refine ⟨n2, c2, s2, kl2, m2.eq ?_, p2⟩
     rw [hfr _ _ n2 (fun hx => he (h.tab.inj g' g hg' hg hx)) m2.some, m2.some]
   ·intro g1 g2 a1 a2 a3
    have ne : ∀ x, memG w x ((k, v) :: P) ≠ [] → memG w x P ≠ [] := fun x hx => by
     by_cases he : x = g
     ·subst he; exact hg
     ·rwa [hout x he] at hx
    exact h.tab.inj g1 g2 (ne g1 a1) (ne g2 a2) a3
   ·intro id x hx
    refine hfr id x (fun he => ?_) (fun he => ?_) (h.old id x hx)
    ·rw [he, h.top] at hx; cases hx
    ·rw [he, h.sub g hg] at hx; cases hx
   ·intro g' hg'
    by_cases he : g' = g
    ·subst he; exact h.sub _ hg
    ·rw [hout g' he] at hg'; exact h.sub g' hg'
  ·have hl := h3 g
   rw [if_neg hg] at hl
   have hge : memG w g P = [] := by simpa using hg
   refine with_add0 w gid k v g hv hf S h1 hl K ?_
   intro S' kid a b c d hkn hkg hfr hG hKK
   have h0 : ∀ g', memG w g' P ≠ [] → kd g' ≠ kid := fun g' hg' he => by
    obtain ⟨_, c2, s2, kl2, m2, _⟩ := h.tab.sub g' hg'
    have := m2.some
    rw [he, hkn] at this
    cases this
   have hne : ∀ g', memG w g' P ≠ [] → g' ≠ g := fun g' hg' he => by subst he; exact hg' hge
   refine hK S' (kdSet kd g kid) ⟨⟨⟨a, b, _, hG, nodup_upd h2, ?_⟩, ?_, ?_⟩, ?_, h.top, ?_⟩
   ·intro g' u
    rw [mem_upd h2]
    by_cases he : g' = g
    ·subst he
     have hk1 : kdSet kd g' kid g' = kid := by simp [kdSet]
     rw [hin, hk1, hge]
     have hs : addF (0, 0) (numberF w v) 1 = sumOf w [(k, v)] := by rw [← sum_cons]; rfl
     rw [hs]
     constructor
     ·rintro (h5 | ⟨_, h5⟩)
      ·injection h5 with _ h5
       exact ⟨by simp, h5⟩
      ·exact absurd rfl h5
     ·rintro ⟨_, h5⟩
      left
      rw [h5]
    ·have hk1 : kdSet kd g kid g' = kd g' := by simp [kdSet, he]
     rw [hout g' he, hk1, ← h4]
     constructor
     ·rintro (h5 | ⟨h5, _⟩)
      ·injection h5 with h5 _; exact absurd h5 he
      ·exact h5
     ·intro h5; exact .inr ⟨h5, he⟩
   ·intro g' hg'
    by_cases he : g' = g
    ·subst he
     have hk1 : kdSet kd g' kid g' = kid := by simp [kdSet]
     rw [hk1, hin, hge]
     exact ⟨hkg, c, d, [k], hKK, List.Perm.refl _⟩
    ·have hk1 : kdSet kd g kid g' = kd g' := by simp [kdSet, he]
     rw [hk1]
     rw [hout g' he] at hg' ⊢
     obtain ⟨n2, c2, s2, kl2, m2, p2⟩ := h.tab.sub g' hg'
     refine ⟨n2, c2, s2, kl2, m2.eq ?_, p2⟩
     rw [hfr _ _ n2 m2.some, m2.some]
   ·intro g1 g2 a1 a2 a3
    by_cases e1 : g1 = g
    ·by_cases e2 : g2 = g
     ·rw [e1, e2]
     ·rw [hout g2 e2] at a2
      have hk1 : kdSet kd g kid g2 = kd g2 := by simp [kdSet, e2]
      have hk2 : kdSet kd g kid g1 = kid := by simp [kdSet, e1]
      rw [hk1, hk2] at a3
      exact absurd a3.symm (h0 g2 a2)
    ·rw [hout g1 e1] at a1
     have hk1 : kdSet kd g kid g1 = kd g1 := by simp [kdSet, e1]
     rw [hk1] at a3
     by_cases e2 : g2 = g
     ·have hk2 : kdSet kd g kid g2 = kid := by simp [kdSet, e2]
      rw [hk2] at a3
      exact absurd a3 (h0 g1 a1)
     ·rw [hout g2 e2] at a2
      have hk2 : kdSet kd g kid g2 = kd g2 := by simp [kdSet, e2]
      rw [hk2] at a3
      exact h.tab.inj g1 g2 a1 a2 a3
   ·intro id x hx
    refine hfr id x (fun he => ?_) (h.old id x hx)
    rw [he, h.top] at hx; cases hx
   ·intro g' hg'
    by_cases he : g' = g
    ·subst he
     have hk1 : kdSet kd g' kid g' = kid := by simp [kdSet]
     rw [hk1]
     cases hx : S0 kid with
     | none => rfl
     | some x => rw [h.old _ _ hx] at hkn; cases hkn
    ·have hk1 : kdSet kd g kid g' = kd g' := by simp [kdSet, he]
     rw [hk1]
     rw [hout g' he] at hg'
     exact h.sub g' hg'
theorem NewTab.del {S0 S : Store} {w : Wv} {gid : Nat} {P : List Pr} {kd : ByteArray → Nat} (k v : ByteArray) (h : NewTab S0 S w gid ((k, v) :: P) kd) (hk : k ∉ P.map Prod.fst) (hv : v.size ≤ 1000000) (K : PV → Store → Prop)
  (hK : ∀ S' kd', NewTab S0 S' w gid P kd' → K (.tup []) S') : PCalls Tryz.prog 65 [.ip (encT w gid) 0, .str k, .str v, .bool false] S K := by
 obtain ⟨cl, st, L, h1, h2, h3, h4⟩ := h.tab.at
 cases hf : fieldF v w.field with
 | none =>
  refine with_none w gid k v false hv hf S K (hK S kd ?_)
  have hm : ∀ g, memG w g ((k, v) :: P) = memG w g P := fun g => memG_out (by rw [hf]; simp)
  exact ⟨⟨⟨cl, st, L, h1, h2, fun g u => by rw [← hm]; exact h4 g u⟩, fun g hg => by rw [← hm] at hg ⊢; exact h.tab.sub g hg, fun g g' a b => by rw [← hm] at a b; exact h.tab.inj g g' a b⟩, h.old, h.top, fun g hg => by rw [← hm] at hg; exact h.sub g hg⟩
 | some g =>
  have hin : memG w g ((k, v) :: P) = (k, v) :: memG w g P := memG_in hf
  have hout : ∀ g', g' ≠ g → memG w g' ((k, v) :: P) = memG w g' P := fun g' hg' => memG_out (gvne hf hg')
  have hg : memG w g ((k, v) :: P) ≠ [] := by rw [hin]; simp
  have hl := h3 g
  rw [if_pos hg] at hl
  obtain ⟨n1, c1, s1, kl, m1, p1⟩ := h.tab.sub g hg
  have hsum : addF (sumOf w (memG w g ((k, v) :: P))) (numberF w v) (-1) = sumOf w (memG w g P) := by
   rw [hin]; exact sum_uncons w (k, v) _
  rw [hin, List.map_cons] at p1
  obtain ⟨kl', d1, d2⟩ := del_keys (p1.mem_iff.2 List.mem_cons_self)
  have p2 : kl'.Perm ((memG w g P).map Prod.fst) := List.Perm.cons_inv (d2.symm.trans p1)
  have hlen : kl'.length = (memG w g P).length := by rw [p2.length_eq, List.length_map]
  refine with_del w gid k v g hv hf S h1 hl m1 n1 K ?_
  intro S' a b c d hfr hG hKK
  rw [d1] at hKK hG
  rw [List.length_map, hsum] at hG
  have up : ∀ x, memG w x P ≠ [] → memG w x ((k, v) :: P) ≠ [] := fun x hx => by
   by_cases he : x = g
   ·subst he; exact hg
   ·rwa [hout x he]
  have hold : ∀ id x, S0 id = some x → S' id = some x := by
   intro id x hx
   refine hfr id x (fun he => ?_) (fun he => ?_) (h.old id x hx)
   ·rw [he, h.top] at hx; cases hx
   ·rw [he, h.sub g hg] at hx; cases hx
  have hsub : ∀ g', memG w g' P ≠ [] → kd g' ≠ gid ∧ ∃ cl st, ∃ kl : List ByteArray, MC S' (kd g') cl st (kl.map kv1) ∧ kl.Perm ((memG w g' P).map Prod.fst) := by
   intro g' hg'
   by_cases he : g' = g
   ·subst he
    exact ⟨n1, c, d, _, hKK, p2⟩
   ·rw [← hout g' he] at hg' ⊢
    obtain ⟨n2, c2, s2, kl2, m2, q2⟩ := h.tab.sub g' hg'
    refine ⟨n2, c2, s2, kl2, m2.eq ?_, q2⟩
    rw [hfr _ _ n2 (fun hx => he (h.tab.inj g' g hg' hg hx)) m2.some, m2.some]
  refine hK S' kd ⟨⟨?_, hsub, fun g1 g2 a1 a2 a3 => h.tab.inj g1 g2 (up g1 a1) (up g2 a2) a3⟩, hold, h.top, fun g' hg' => h.sub g' (up g' hg')⟩
  by_cases hz : kl'.length = 0
  ·rw [if_pos hz] at hG
   have hge : memG w g P = [] := List.length_eq_zero_iff.1 (by omega)
   refine ⟨a, b, _, hG, nodup_del h2, ?_⟩
   intro g' u
   rw [mem_del h2, h4]
   by_cases he : g' = g
   ·subst he
    constructor
    ·rintro ⟨_, h5⟩; exact absurd rfl h5
    ·rintro ⟨h5, _⟩; exact absurd hge h5
   ·rw [hout g' he]
    exact ⟨fun h5 => h5.1, fun h5 => ⟨h5, he⟩⟩
  ·rw [if_neg hz] at hG
   have hge : memG w g P ≠ [] := fun h => hz (by rw [hlen, h]; rfl)
   refine ⟨a, b, _, hG, nodup_upd h2, ?_⟩
   intro g' u
   rw [mem_upd h2]
   by_cases he : g' = g
   ·subst he
    constructor
    ·rintro (h5 | ⟨_, h5⟩)
     ·injection h5 with _ h5
      exact ⟨hge, h5⟩
     ·exact absurd rfl h5
    ·rintro ⟨_, h5⟩
     left
     rw [h5]
   ·rw [← hout g' he, ← h4]
    constructor
    ·rintro (h5 | ⟨h5, _⟩)
     ·injection h5 with h5 _; exact absurd h5 he
     ·exact h5
    ·intro h5; exact .inr ⟨h5, he⟩
end Go.Proofs.YtdioedabjaaboaaGreat.V
