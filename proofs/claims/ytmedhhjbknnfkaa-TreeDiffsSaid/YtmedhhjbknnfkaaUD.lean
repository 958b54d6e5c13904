/- Trees: the document's unions, and what leads from one list to another. -/
import Derived.Test.YtmedhhjbknnfkaaUC
set_option linter.unusedVariables false
set_option linter.unusedSimpArgs false
namespace Go.Proofs.Ytmedhhjbknnfkaa.V
open Go Go.VL

/-! ### sorted lists are what they have -/
theorem look_mem {L : List Pr} (h : Sorted L) {p : Pr} (hp : p ∈ L) : look p.1 L = some p.2 := by
  obtain ⟨A, B, rfl⟩ := List.append_of_mem hp
  exact (mid_at (k := p.1) (v := p.2) h).2.2
theorem look_putL {L : List Pr} (h : Sorted L) (x v k : ByteArray) : look k (putL x v L) = if same x k then some v else look k L := by
  unfold putL
  rw [look_app, look]
  cases e : same x k
  · simp only [Bool.false_eq_true, if_false]
    have hxk : x ≠ k := fun h => by rw [h, same_refl] at e; cases e
    cases c : lt k x
    · have c2 : lt x k = true := by
        cases c2 : lt x k with
        | true => rfl
        | false => exact absurd (lt_tri c2 c) hxk
      have h1 : look k (below x L) = none := look_none fun a ha => same_lt (lt_trans (mem_below.1 ha).2 c2)
      rw [h1, Option.none_or]
      exact look_filter (q := fun y => lt x y) c2 L
    · have h1 : look k (above x L) = none := look_none fun a ha => same_gt (lt_trans c (mem_above.1 ha).2)
      rw [h1, Option.or_none]
      exact look_filter (q := fun y => lt y x) c L
  · have hxk := same_iff.1 e
    subst hxk
    have h1 : look x (below x L) = none := look_none fun a ha => same_lt (mem_below.1 ha).2
    rw [h1]
    rfl
theorem look_dropL (L : List Pr) (x k : ByteArray) : look k (dropL x L) = if same x k then none else look k L := by
  unfold dropL
  cases e : same x k
  · simp only [Bool.false_eq_true, if_false]
    refine look_filter (q := fun y => !same y x) ?_ L
    show (!same k x) = true
    rw [same_ne (fun h => by rw [h, same_refl] at e; cases e)]
    rfl
  · simp only [if_true]
    have hxk := same_iff.1 e
    subst hxk
    refine look_none fun a ha => ?_
    have := (List.mem_filter.1 ha).2
    simpa using this
theorem look_in {L : List Pr} {k v : ByteArray} (h : look k L = some v) : ∃ p ∈ L, p.1 = k ∧ p.2 = v := ⟨_, look_some h, rfl, rfl⟩
theorem sorted_ext : ∀ {A B : List Pr}, Sorted A → Sorted B → (∀ k, look k A = look k B) → A = B
  | [], [], _, _, _ => rfl
  | [], q :: B, _, _, h => by
    have := h q.1
    rw [look, look, same_refl] at this
    simp at this
  | p :: A, [], _, _, h => by
    have := h p.1
    rw [look, look, same_refl] at this
    simp at this
  | p :: A, q :: B, hA, hB, h => by
    have h1 := List.pairwise_cons.1 hA
    have h2 := List.pairwise_cons.1 hB
    have e1 : look p.1 (q :: B) = some p.2 := by rw [← h p.1]; exact look_mem hA List.mem_cons_self
    have e2 : look q.1 (p :: A) = some q.2 := by rw [h q.1]; exact look_mem hB List.mem_cons_self
    have hk : p.1 = q.1 := by
      have m1 := look_some e1
      have m2 := look_some e2
      rcases List.mem_cons.1 m1 with e | m1
      · exact congrArg Prod.fst e
      · rcases List.mem_cons.1 m2 with e | m2
        · exact (congrArg Prod.fst e).symm
        · have a1 := h2.1 _ m1
          have a2 := h1.1 _ m2
          have := lt_asym a1
          rw [a2] at this
          cases this
    have hv : p.2 = q.2 := by
      rw [hk, look, same_refl] at e1
      simp at e1
      exact e1.symm
    have hpq : p = q := Prod.ext hk hv
    subst hpq
    congr 1
    refine sorted_ext h1.2 h2.2 fun k => ?_
    have := h k
    rw [look, look] at this
    cases e : same p.1 k
    · rw [e] at this
      simpa using this
    · have hk2 := same_iff.1 e
      subst hk2
      rw [look_none fun a ha => same_gt (h1.1 a ha), look_none fun a ha => same_gt (h2.1 a ha)]

/-! ### unions -/
def unionL (A B : List Pr) : List Pr := B.foldl (fun acc p => putL p.1 p.2 acc) A
theorem unionL_take {A B : List Pr} {k : Nat} {p : Pr} (h : B[k]? = some p) : unionL A (B.take (k + 1)) = putL p.1 p.2 (unionL A (B.take k)) := by
  rw [List.take_add_one, h]
  simp [unionL]
theorem unionL_ok : ∀ (B A : List Pr), Sorted A → Sorted (unionL A B) ∧ (unionL A B).length ≤ A.length + B.length
  | [], A, h => ⟨h, Nat.le_refl _⟩
  | p :: B, A, h => by
    obtain ⟨h1, h2⟩ := unionL_ok B (putL p.1 p.2 A) (sorted_put h _ _)
    have := put_len h p.1 p.2
    refine ⟨h1, ?_⟩
    show (unionL (putL p.1 p.2 A) B).length ≤ _
    simp only [List.length_cons]
    omega
theorem look_unionL (k : ByteArray) : ∀ (B A : List Pr), Sorted A → Sorted B → look k (unionL A B) = (look k B).or (look k A)
  | [], A, _, _ => by simp [unionL, look]
  | p :: B, A, hA, hB => by
    have h2 := List.pairwise_cons.1 hB
    have ih := look_unionL k B (putL p.1 p.2 A) (sorted_put hA _ _) h2.2
    show look k (unionL (putL p.1 p.2 A) B) = _
    rw [ih, look_putL hA, look]
    cases e : same p.1 k
    · simp
    · have hk := same_iff.1 e
      subst hk
      rw [look_none fun a ha => same_gt (h2.1 a ha)]
      simp

def mrgL : List Pr → List Pr → List Pr
  | [], B => B
  | p :: A, B => below p.1 B ++ (p.1, (look p.1 B).getD p.2) :: mrgL A (above p.1 B)
theorem mrg_mem : ∀ {A B : List Pr} {q : Pr}, q ∈ mrgL A B → (∃ v, (q.1, v) ∈ A) ∨ (∃ v, (q.1, v) ∈ B)
  | [], B, q, h => .inr ⟨q.2, h⟩
  | p :: A, B, q, h => by
    rw [mrgL] at h
    rcases List.mem_append.1 h with h | h
    · exact .inr ⟨q.2, (mem_below.1 h).1⟩
    · rcases List.mem_cons.1 h with rfl | h
      · exact .inl ⟨p.2, List.mem_cons_self⟩
      · rcases mrg_mem h with ⟨v, hv⟩ | ⟨v, hv⟩
        · exact .inl ⟨v, List.mem_cons_of_mem _ hv⟩
        · exact .inr ⟨v, (mem_above.1 hv).1⟩
theorem mrg_above {A B : List Pr} {p q : Pr} (hA : Sorted (p :: A)) (h : q ∈ mrgL A (above p.1 B)) : lt p.1 q.1 = true := by
  rcases mrg_mem h with ⟨v, hv⟩ | ⟨v, hv⟩
  · exact (List.pairwise_cons.1 hA).1 (q.1, v) hv
  · exact (mem_above (p := (q.1, v)).1 hv).2
theorem mrg_sorted : ∀ (A B : List Pr), Sorted A → Sorted B → Sorted (mrgL A B)
  | [], B, _, h => h
  | p :: A, B, hA, hB => by
    rw [mrgL]
    exact sorted_mk (sorted_below hB _) (mrg_sorted A _ (List.pairwise_cons.1 hA).2 (sorted_above hB _)) (fun a ha => (mem_below.1 ha).2) (fun b hb => mrg_above (p := p) hA hb)
theorem look_mrg (k : ByteArray) : ∀ (A B : List Pr), Sorted A → Sorted B → look k (mrgL A B) = (look k B).or (look k A)
  | [], B, _, _ => by simp [mrgL, look]
  | p :: A, B, hA, hB => by
    have hp := List.pairwise_cons.1 hA
    have ih := look_mrg k A (above p.1 B) hp.2 (sorted_above hB _)
    rw [mrgL, look_app, look, ih, look]
    cases e : same p.1 k
    · have hne : p.1 ≠ k := fun h => by rw [h, same_refl] at e; cases e
      simp only [Bool.false_eq_true, if_false]
      cases c : lt k p.1
      · have c2 : lt p.1 k = true := by
          cases c2 : lt p.1 k with
          | true => rfl
          | false => exact absurd (lt_tri c2 c) hne
        have h1 : look k (below p.1 B) = none := look_none fun a ha => same_lt (lt_trans (mem_below.1 ha).2 c2)
        have h2 : look k (above p.1 B) = look k B := look_filter (q := fun y => lt p.1 y) c2 B
        rw [h1, h2, Option.none_or]
      · have h1 : look k (above p.1 B) = none := look_none fun a ha => same_gt (lt_trans c (mem_above.1 ha).2)
        have h2 : look k (below p.1 B) = look k B := look_filter (q := fun y => lt y p.1) c B
        have h3 : look k A = none := look_none fun a ha => same_gt (lt_trans c (hp.1 a ha))
        rw [h1, h2, h3]
        simp
    · have hk := same_iff.1 e
      subst hk
      have h1 : look p.1 (below p.1 B) = none := look_none fun a ha => same_lt (mem_below.1 ha).2
      rw [h1]
      cases look p.1 B <;> simp
theorem mrg_union {A B : List Pr} (hA : Sorted A) (hB : Sorted B) : mrgL A B = unionL A B :=
  sorted_ext (mrg_sorted A B hA hB) (unionL_ok B A hA).1 fun k => by rw [look_mrg k A B hA hB, look_unionL k B A hA hB]

/-! ### what leads from one to another -/
def evQ (A B : List Pr) (k : ByteArray) : Bool := ((look k A).isSome != (look k B).isSome) || !same ((look k A).getD ⟨#[]⟩) ((look k B).getD ⟨#[]⟩)
def evOne (A B : List Pr) (p : Pr) : List Ev :=
  if evQ A B p.1 then [⟨p.1, (look p.1 A).isSome, (look p.1 A).getD ⟨#[]⟩, (look p.1 B).isSome, (look p.1 B).getD ⟨#[]⟩⟩] else []
theorem evOne_congr {A A' B B' : List Pr} {p q : Pr} (hk : p.1 = q.1) (h1 : look p.1 A = look q.1 A') (h2 : look p.1 B = look q.1 B') : evOne A B p = evOne A' B' q := by
  unfold evOne evQ
  rw [h1, h2, hk]
theorem flatMap_congr' {α β : Type} {f g : α → List β} : ∀ {l : List α}, (∀ x ∈ l, f x = g x) → l.flatMap f = l.flatMap g
  | [], _ => rfl
  | x :: l, h => by
    rw [List.flatMap_cons, List.flatMap_cons, h x List.mem_cons_self, flatMap_congr' fun y hy => h y (List.mem_cons_of_mem _ hy)]
theorem flatMap_new {A B : List Pr} : ∀ {L : List Pr}, (∀ q ∈ L, look q.1 A = none ∧ look q.1 B = some q.2) → L.flatMap (evOne A B) = L.map evNew
  | [], _ => rfl
  | q :: L, h => by
    obtain ⟨h1, h2⟩ := h q List.mem_cons_self
    have : evOne A B q = [evNew q] := by
      unfold evOne evQ
      rw [h1, h2]
      rfl
    rw [List.flatMap_cons, this, flatMap_new fun q hq => h q (List.mem_cons_of_mem _ hq)]
    rfl
theorem evL_mrg : ∀ (A B : List Pr), Sorted A → Sorted B → evL A B = (mrgL A B).flatMap (evOne A B)
  | [], B, _, hB => by
    rw [evL, mrgL, flatMap_new fun q hq => ⟨rfl, look_mem hB hq⟩]
  | p :: A, B, hA, hB => by
    have hp := List.pairwise_cons.1 hA
    rw [evL, mrgL, List.flatMap_append, List.flatMap_cons, evL_mrg A _ hp.2 (sorted_above hB _)]
    congr 1
    · refine (flatMap_new fun q hq => ?_).symm
      obtain ⟨m1, m2⟩ := mem_below.1 hq
      refine ⟨?_, look_mem hB m1⟩
      rw [look, same_gt m2]
      simp only [Bool.false_eq_true, if_false]
      exact look_none fun a ha => same_gt (lt_trans m2 (hp.1 a ha))
    · congr 1
      · unfold evOne evQ evMid
        have hl : look p.1 (p :: A) = some p.2 := by rw [look, same_refl]; rfl
        dsimp only
        rw [hl]
        cases look p.1 B with
        | none => rfl
        | some w =>
          by_cases hw : w = p.2
          · subst hw
            simp [same_refl]
          · simp [same_ne hw, same_ne (Ne.symm hw)]
      · refine flatMap_congr' fun q hq => ?_
        have hlt := mrg_above hA hq
        refine evOne_congr rfl ?_ ?_
        · rw [look, same_lt hlt]
          rfl
        · exact look_filter (q := fun y => lt p.1 y) hlt B
theorem evL_union {A B : List Pr} (hA : Sorted A) (hB : Sorted B) : evL A B = (unionL A B).flatMap (evOne A B) := by
  rw [evL_mrg A B hA hB, mrg_union hA hB]

/-! ### done to the first it makes the second -/
def evDo (L : List Pr) (e : Ev) : List Pr := if e.has then putL e.k e.now L else dropL e.k L
theorem evDo_sorted {L : List Pr} (h : Sorted L) (e : Ev) : Sorted (evDo L e) := by
  unfold evDo
  split
  · exact sorted_put h _ _
  · exact sorted_drop h _
theorem evDo_len {L : List Pr} (h : Sorted L) (e : Ev) : (evDo L e).length ≤ L.length + 1 := by
  unfold evDo
  split
  · exact put_len h _ _
  · exact Nat.le_succ_of_le (drop_len L _)
theorem evDo_look {L : List Pr} (h : Sorted L) (e : Ev) (k : ByteArray) : look k (evDo L e) = if same e.k k then (if e.has then some e.now else none) else look k L := by
  unfold evDo
  cases e.has
  · simp only [Bool.false_eq_true, if_false]; exact look_dropL L e.k k
  · simp only [if_true]; exact look_putL h e.k e.now k
def evAll (L : List Pr) (E : List Ev) : List Pr := E.foldl evDo L
theorem evAll_take {L : List Pr} {E : List Ev} {k : Nat} {e : Ev} (h : E[k]? = some e) : evAll L (E.take (k + 1)) = evDo (evAll L (E.take k)) e := by
  rw [List.take_add_one, h]
  simp [evAll]
theorem evAll_ok : ∀ (E : List Ev) (L : List Pr), Sorted L → Sorted (evAll L E) ∧ (evAll L E).length ≤ L.length + E.length
  | [], L, h => ⟨h, Nat.le_refl _⟩
  | e :: E, L, h => by
    obtain ⟨h1, h2⟩ := evAll_ok E (evDo L e) (evDo_sorted h e)
    have := evDo_len h e
    refine ⟨h1, ?_⟩
    show (evAll (evDo L e) E).length ≤ _
    simp only [List.length_cons]
    omega
theorem evAll_look {B : List Pr} (k : ByteArray) : ∀ (E : List Ev) (L : List Pr), Sorted L → (∀ e ∈ E, (if e.has then some e.now else none) = look e.k B) → (∀ e ∈ E, e.k ≠ k) ∨ look k (evAll L E) = look k B
  | [], L, h, _ => .inl (by simp)
  | e :: E, L, h, hg => by
    have hgE : ∀ e ∈ E, (if e.has then some e.now else none) = look e.k B := fun x hx => hg x (List.mem_cons_of_mem _ hx)
    by_cases hk : e.k = k
    · right
      show look k (evAll (evDo L e) E) = _
      rcases evAll_look k E (evDo L e) (evDo_sorted h e) hgE with h1 | h1
      · have : ∀ (E : List Ev) (L : List Pr), Sorted L → (∀ e ∈ E, e.k ≠ k) → look k (evAll L E) = look k L := by
          intro E
          induction E with
          | nil => intro L _ _; rfl
          | cons x E ih =>
            intro L hL hx
            show look k (evAll (evDo L x) E) = _
            rw [ih _ (evDo_sorted hL x) fun y hy => hx y (List.mem_cons_of_mem _ hy), evDo_look hL, same_ne (hx x List.mem_cons_self)]
            rfl
        rw [this E _ (evDo_sorted h e) h1, evDo_look h, same_iff.2 hk]
        simp only [if_true]
        rw [hg e List.mem_cons_self, hk]
      · exact h1
    · rcases evAll_look k E (evDo L e) (evDo_sorted h e) hgE with h1 | h1
      · exact .inl fun x hx => by
          rcases List.mem_cons.1 hx with rfl | hx
          · exact hk
          · exact h1 x hx
      · exact .inr h1
theorem evAll_keep (k : ByteArray) : ∀ (E : List Ev) (L : List Pr), Sorted L → (∀ e ∈ E, e.k ≠ k) → look k (evAll L E) = look k L
  | [], L, _, _ => rfl
  | x :: E, L, hL, hx => by
    show look k (evAll (evDo L x) E) = _
    rw [evAll_keep k E _ (evDo_sorted hL x) fun y hy => hx y (List.mem_cons_of_mem _ hy), evDo_look hL, same_ne (hx x List.mem_cons_self)]
    rfl
theorem evAll_evL {A B : List Pr} (hA : Sorted A) (hB : Sorted B) : evAll A (evL A B) = B := by
  refine sorted_ext (evAll_ok _ _ hA).1 hB fun k => ?_
  have hm : ∀ e ∈ evL A B, ∃ p : Pr, e.k = p.1 ∧ e.has = (look p.1 B).isSome ∧ e.now = (look p.1 B).getD ⟨#[]⟩ := by
    intro e he
    rw [evL_union hA hB] at he
    obtain ⟨p, _, hp⟩ := List.mem_flatMap.1 he
    unfold evOne at hp
    split at hp
    · simp at hp
      subst hp
      exact ⟨p, rfl, rfl, rfl⟩
    · cases hp
  rcases evAll_look (B := B) k (evL A B) A hA (fun e he => by
    obtain ⟨p, h1, h2, h3⟩ := hm e he
    rw [h1, h2, h3]
    cases look p.1 B <;> rfl) with h | h
  · rw [evAll_keep k _ _ hA h]
    rcases Classical.em (look k A = look k B) with he | he
    · exact he
    · exfalso
      have hu := look_unionL k B A hA hB
      have hex : ∃ v, look k (unionL A B) = some v := by
        rw [hu]
        cases hb : look k B with
        | some v => exact ⟨v, rfl⟩
        | none =>
          cases ha : look k A with
          | some v => exact ⟨v, rfl⟩
          | none => rw [ha, hb] at he; exact absurd rfl he
      obtain ⟨v, hv⟩ := hex
      have hmem := look_some hv
      have hq : evQ A B k = true := by
        unfold evQ
        cases ha : look k A with
        | none =>
          cases hb : look k B with
          | none => rw [ha, hb] at he; exact absurd rfl he
          | some w => rfl
        | some u =>
          cases hb : look k B with
          | none => rfl
          | some w =>
            have : u ≠ w := fun e => he (by rw [ha, hb, e])
            simp [same_ne this]
      have : (⟨k, (look k A).isSome, (look k A).getD ⟨#[]⟩, (look k B).isSome, (look k B).getD ⟨#[]⟩⟩ : Ev) ∈ evL A B := by
        rw [evL_union hA hB]
        refine List.mem_flatMap.2 ⟨(k, v), hmem, ?_⟩
        unfold evOne
        rw [if_pos hq]
        exact List.mem_singleton.2 rfl
      exact h _ this rfl
  · exact h
end Go.Proofs.Ytmedhhjbknnfkaa.V
