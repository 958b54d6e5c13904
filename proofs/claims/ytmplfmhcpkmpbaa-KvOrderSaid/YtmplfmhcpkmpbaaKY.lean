/- Maps: operations in any order; one by one. -/
import Derived.Test.YtmplfmhcpkmpbaaKX
set_option linter.unusedVariables false
set_option linter.unusedSimpArgs false
namespace Go.Proofs.Ytmplfmhcpkmpbaa.V
open Go Go.VL

theorem look_mem {L : List Pr} {p : Pr} (hs : Sorted L) (h : p ∈ L) : look p.1 L = some p.2 := look_isSome_mem (k := p.1) (v := p.2) hs h
theorem sorted_ext : ∀ {A B : List Pr}, Sorted A → Sorted B → (∀ k, look k A = look k B) → A = B
  | [], [], _, _, _ => rfl
  | [], q :: B, _, _, h => by
    have := h q.1
    rw [look, look, same_refl] at this
    simp at this
  | p :: A, [], _, _, h => by
    have := h p.1
    rw [look, look, same_refl] at this
    simp at this
  | p :: A, q :: B, hA, hB, h => by
    have h1 := List.pairwise_cons.1 hA
    have h2 := List.pairwise_cons.1 hB
    have e1 : look p.1 (q :: B) = some p.2 := by rw [← h p.1]; exact look_mem hA List.mem_cons_self
    have e2 : look q.1 (p :: A) = some q.2 := by rw [h q.1]; exact look_mem hB List.mem_cons_self
    have hk : p.1 = q.1 := by
      have m1 := look_some e1
      have m2 := look_some e2
      rcases List.mem_cons.1 m1 with e | m1
      · exact congrArg Prod.fst e
      · rcases List.mem_cons.1 m2 with e | m2
        · exact (congrArg Prod.fst e).symm
        · have a1 := h2.1 _ m1
          have a2 := h1.1 _ m2
          have := lt_asym a1
          rw [a2] at this
          cases this
    have hv : p.2 = q.2 := by
      rw [hk, look, same_refl] at e1
      simp at e1
      exact e1.symm
    have hpq : p = q := Prod.ext hk hv
    subst hpq
    congr 1
    refine sorted_ext h1.2 h2.2 fun k => ?_
    have := h k
    rw [look, look] at this
    cases e : same p.1 k
    · rw [e] at this
      simpa using this
    · have hk2 := same_iff.1 e
      subst hk2
      rw [look_none fun a ha => same_gt (h1.1 a ha), look_none fun a ha => same_gt (h2.1 a ha)]

/-! ### unions -/
def unionL (A B : List Pr) : List Pr := B.foldl (fun acc p => putL p.1 p.2 acc) A
/-- Operations that may be, each by itself and all together. -/
def Fine (ops : List KO) : Prop := (∀ o ∈ ops, badV o = false ∧ keyQ o.k = true) ∧ ops.Pairwise (fun a b => same a.k b.k = false)
theorem right_fine {l : List KO} (h : rightF [] l = 0) : Fine l := ⟨right_bad l [] h, (right_dist l [] h).1⟩
theorem fine_right : ∀ (l pre : List KO), (∀ o ∈ l, badV o = false ∧ keyQ o.k = true) → l.Pairwise (fun a b => same a.k b.k = false) → (∀ o ∈ l, seenQ o.k pre = false) → rightF pre l = 0
  | [], pre, _, _, _ => rfl
  | o :: l, pre, h1, h2, h3 => by
    obtain ⟨p1, p2⟩ := List.pairwise_cons.1 h2
    obtain ⟨b1, b2⟩ := h1 o List.mem_cons_self
    unfold rightF
    rw [b2, b1, h3 o List.mem_cons_self]
    simp only [if_true, Bool.false_eq_true, if_false]
    refine fine_right l _ (fun x hx => h1 x (List.mem_cons_of_mem _ hx)) p2 fun x hx => ?_
    rw [seenQ_snoc, h3 x (List.mem_cons_of_mem _ hx), p1 x hx]
    rfl
theorem fine_iff {l : List KO} : rightF [] l = 0 ↔ Fine l := ⟨right_fine, fun h => fine_right l [] h.1 h.2 (fun _ _ => rfl)⟩
theorem same_sym {a b : ByteArray} (h : same a b = false) : same b a = false := by
  unfold same at h ⊢
  rw [Bool.and_comm]
  exact h
theorem fine_perm {a b : List KO} (h : a.Perm b) (ha : Fine a) : Fine b :=
  ⟨fun o ho => ha.1 o (h.mem_iff.2 ho), (h.pairwise_iff fun {x y} hxy => same_sym hxy).1 ha.2⟩
theorem fine_sub {a b : List KO} (h : a.Sublist b) (hb : Fine b) : Fine a := ⟨fun o ho => hb.1 o (h.subset ho), hb.2.sublist h⟩
theorem planN_perm {L : List Pr} {a b : List KO} (h : a.Perm b) : planN L a = planN L b := by
  induction h with
  | nil => rfl
  | cons x _ ih => unfold planN; rw [ih]
  | swap x y l => unfold planN; unfold planN; omega
  | trans _ _ h1 h2 => exact h1.trans h2
theorem look_ops {L : List Pr} (hs : Sorted L) {ops : List KO} (hf : Fine ops) : (∀ o ∈ ops, look o.k (opsL L ops) = want o) ∧ ∀ x, (∀ o ∈ ops, same o.k x = false) → look x (opsL L ops) = look x L := by
  have hb : ∀ o ∈ ops, badV o = false := fun o ho => (hf.1 o ho).1
  rw [ops_take L 0 ops L hs (fun _ _ => rfl) hf.2 hb]
  refine ⟨take_want L 0 ops L hs (fun _ _ => rfl) hf.2 hb, fun x hx => look_take_ne _ _ _ hs fun e he => ?_⟩
  obtain ⟨o, ho, rfl⟩ := plan_mem he
  exact hx o ho
theorem opsL_perm {L : List Pr} (hs : Sorted L) {a b : List KO} (h : a.Perm b) (ha : Fine a) : opsL L a = opsL L b := by
  obtain ⟨a1, a2⟩ := look_ops hs ha
  obtain ⟨b1, b2⟩ := look_ops hs (fine_perm h ha)
  refine sorted_ext (opsL_ok a L hs).1 (opsL_ok b L hs).1 fun k => ?_
  by_cases hk : ∀ o ∈ a, same o.k k = false
  · rw [a2 k hk, b2 k fun o ho => hk o (h.mem_iff.2 ho)]
  · obtain ⟨o, ho⟩ := Classical.not_forall.1 hk
    obtain ⟨ho, hne⟩ := Classical.not_imp.1 ho
    have : o.k = k := same_iff.1 (by simpa using hne)
    rw [← this, a1 o ho, b1 o (h.mem_iff.1 ho)]
theorem check_fine (ops : List KO) : checkF [] ops = 0 ↔ (1 ≤ ops.length ∧ ops.length ≤ 6) ∧ Fine ops := by
  unfold checkF
  constructor
  · intro h
    split at h
    · cases h
    · rename_i hn
      rw [if_pos (show rightF [] [] = 0 from rfl)] at h
      exact ⟨by omega, fine_iff.1 h⟩
  · rintro ⟨h1, h2⟩
    rw [if_neg (by simp only [List.length_nil]; omega), if_pos (show rightF [] [] = 0 from rfl)]
    exact fine_iff.2 h2
theorem planF_nil (L : List Pr) (pos : Int) (ops : List KO) : planF L pos [] ops = if checkF [] ops = 0 then (if 24 < planN L ops then ([], 7) else (planE L pos ops, 0)) else ([], checkF [] ops) := by
  unfold planF
  split
  · rw [if_pos (show [].all (condQ L) = true from rfl)]
  · rfl
theorem rightF_val : ∀ (l pre : List KO), rightF pre l = 0 ∨ rightF pre l = 20 ∨ rightF pre l = 21 ∨ rightF pre l = 61
  | [], pre => .inl rfl
  | o :: l, pre => by
    unfold rightF
    split
    · split
      · simp
      · split
        · simp
        · exact rightF_val l _
    · simp
theorem check_not7 (ops : List KO) : checkF [] ops ≠ 7 := by
  unfold checkF
  split
  · decide
  · rw [if_pos (show rightF [] [] = 0 from rfl)]
    rcases rightF_val ops [] with h | h | h | h <;> rw [h] <;> decide
/-- An error of a list without conditions: either no error at all, or that of a full map, is that of each order. -/
theorem plan_perm (L : List Pr) (pos : Int) {a b : List KO} (h : a.Perm b) : ((planF L pos [] a).2 = 0 ∨ (planF L pos [] a).2 = 7) → (planF L pos [] b).2 = (planF L pos [] a).2 := by
  rw [planF_nil, planF_nil]
  have hl := h.length_eq
  by_cases hc : checkF [] a = 0
  · have hcb : checkF [] b = 0 := by
      rw [check_fine] at hc ⊢
      exact ⟨by omega, fine_perm h hc.2⟩
    rw [if_pos hc, if_pos hcb, planN_perm (L := L) h]
    intro _
    split <;> rfl
  · rw [if_neg hc]
    intro h0
    rcases h0 with h0 | h0
    · exact absurd h0 hc
    · exact absurd h0 (check_not7 a)
theorem do_ops {L : List Pr} (hs : Sorted L) {pos : Int} {ops : List KO} (h : (planF L pos [] ops).2 = 0) : doF L pos [] ops = opsL L ops ∧ Fine ops ∧ planN L ops ≤ 24 := by
  obtain ⟨h1, h2, h3⟩ := planF_ok h
  have hf := ((check_fine ops).1 h1).2
  refine ⟨?_, hf, h2⟩
  rw [doF_eq h, ops_take L pos ops L hs (fun _ _ => rfl) hf.2 fun o ho => (hf.1 o ho).1]
theorem do_perm {L : List Pr} (hs : Sorted L) {pos : Int} {a b : List KO} (hp : a.Perm b) (h : (planF L pos [] a).2 = 0) : doF L pos [] b = doF L pos [] a := by
  rw [(do_ops hs h).1, (do_ops hs (by rw [plan_perm L pos hp (.inl h)]; exact h)).1]
  exact (opsL_perm hs hp (do_ops hs h).2.1).symm
theorem one_do {L : List Pr} (hs : Sorted L) {o : KO} (h1 : badV o = false) (h2 : keyQ o.k = true) (h3 : (opDo L o).length ≤ 24) (pos : Int) : doF L pos [] [o] = opDo L o := by
  have hf : Fine [o] := ⟨fun x hx => by rw [List.mem_singleton.1 hx]; exact ⟨h1, h2⟩, List.pairwise_singleton _ _⟩
  have hc : checkF [] [o] = 0 := (check_fine [o]).2 ⟨by simp, hf⟩
  have hn := opsL_len hs (fine_iff.2 hf)
  have hn2 : ¬ 24 < planN L [o] := by
    rw [← hn]
    show ¬ 24 < ((opDo L o).length : Int)
    omega
  have : (planF L pos [] [o]).2 = 0 := by rw [planF_nil, if_pos hc, if_neg hn2]
  rw [(do_ops hs this).1]
  rfl
theorem doF_24 {L : List Pr} (hs : Sorted L) (pos : Int) (conds ops : List KO) (h : L.length ≤ 24) : (doF L pos conds ops).length ≤ 24 := by
  by_cases he : (planF L pos conds ops).2 = 0
  · obtain ⟨h1, h2, h3⟩ := planF_ok he
    obtain ⟨_, _, _, h4⟩ := checkF_len h1
    have hf := right_fine h4
    have hl := take_len L pos ops L hs (fun _ _ => rfl) hf.2 fun o ho => (hf.1 o ho).1
    rw [doF_eq he]
    omega
  · rw [(refused_E he).2]
    exact h
theorem made_24 (l : List KD) : (madeF l).1.length ≤ 24 := by
  have : ∀ (l : List KD) (s : List Pr × List KV), Sorted s.1 → s.1.length ≤ 24 → (l.foldl stepM s).1.length ≤ 24 := by
    intro l
    induction l with
    | nil => exact fun _ _ h => h
    | cons d l ih =>
      intro s hs h
      refine ih _ ?_ ?_
      · unfold stepM
        split
        · exact (doF_ok hs _ _ _).1
        · exact hs
      · unfold stepM
        split
        · exact doF_24 hs _ _ _ h
        · exact h
  exact this l ([], []) List.Pairwise.nil (by simp)

/-! ### one by one: drops first -/
def dels (ops : List KO) : List KO := ops.filter fun o => !o.has
def puts (ops : List KO) : List KO := ops.filter fun o => o.has
theorem dels_take {ops : List KO} {k : Nat} {o : KO} (h : ops[k]? = some o) : dels (ops.take (k + 1)) = dels (ops.take k) ++ (if o.has then [] else [o]) := by
  rw [take_snoc h]
  unfold dels
  rw [List.filter_append]
  cases c : o.has <;> simp [c]
theorem puts_take {ops : List KO} {k : Nat} {o : KO} (h : ops[k]? = some o) : puts (ops.take (k + 1)) = puts (ops.take k) ++ (if o.has then [o] else []) := by
  rw [take_snoc h]
  unfold puts
  rw [List.filter_append]
  cases c : o.has <;> simp [c]
theorem split_perm (ops : List KO) : (dels ops ++ puts ops).Perm ops := by
  unfold dels puts
  have := List.filter_append_perm (fun o : KO => !o.has) ops
  simpa using this
theorem opsL_app (L : List Pr) (a b : List KO) : opsL L (a ++ b) = opsL (opsL L a) b := List.foldl_append ..
theorem opsL_dels_len {L : List Pr} : ∀ (ops : List KO) (L : List Pr), Sorted L → (∀ o ∈ ops, o.has = false) → (opsL L ops).length ≤ L.length
  | [], L, _, _ => Nat.le_refl _
  | o :: ops, L, hs, h => by
    have h1 : opDo L o = dropL o.k L := by unfold opDo; rw [h o List.mem_cons_self]; rfl
    have h2 := drop_len L o.k
    have h3 := opsL_dels_len (L := L) ops (opDo L o) (opDo_ok hs o).1 fun x hx => h x (List.mem_cons_of_mem _ hx)
    show (opsL (opDo L o) ops).length ≤ _
    rw [h1] at h3 ⊢
    omega
theorem planN_puts (L : List Pr) : ∀ (b : List KO), (∀ o ∈ b, o.has = true) → (L.length : Int) ≤ planN L b
  | [], _ => Int.le_refl _
  | o :: b, h => by
    have h1 := planN_puts L b fun x hx => h x (List.mem_cons_of_mem _ hx)
    unfold planN delta
    rw [h o List.mem_cons_self]
    split
    · omega
    · split
      · simp only [if_true]; omega
      · omega
/-- Putting only adds. -/
theorem puts_grow {L : List Pr} (hs : Sorted L) {b : List KO} (hf : Fine b) (h : ∀ o ∈ b, o.has = true) : L.length ≤ (opsL L b).length := by
  have h1 := planN_puts L b h
  rw [← opsL_len hs (fine_iff.2 hf)] at h1
  omega
end Go.Proofs.Ytmplfmhcpkmpbaa.V
